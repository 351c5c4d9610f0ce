/- RX, part 13: the literals' steps; copy. -/
import Derived.Test.YtpcmbchibhcdiaaDoorRx12
namespace Go.RX
open Go

def partsE (st : St) (ps : Array (Nat × Operand)) : List (Nat × EV) := ps.toList.map fun p => (p.1, ev st p.2)

theorem run_mapM_ok {α β : Type} {P : Program} {w : World} {f : α → Sem β} {g : α → β} : ∀ {l : List α}, (∀ x ∈ l, (f x).run P w = .ok (g x) w) → (l.mapM f).run P w = .ok (l.map g) w
  | [], _ => by simp
  | x :: l, h => by
    have h1 := h x (by simp)
    have h2 := run_mapM_ok (l := l) (fun y hy => h y (by simp [hy]))
    simp [h1, h2]

section
variable {P : Program} {ti : TI} (H : TIok P ti) {G : Nat → Prop} {w0 : World} {io : List (Nat × Nat)} {st : St} {a : Act} {w : World} {β : Beta}

theorem partsE_rel (h : SimB G w0 io st a w β) (ps : Array (Nat × Operand)) (k i : Nat) (e : EV) (hk : (partsE st ps)[k]? = some (i, e)) :
    ∃ v, (ps.map fun (i, x) => (i, a.eval x)).toList[k]? = some (i, v) ∧ EVR (cxOf G w β st) e v := by
  simp only [partsE, List.getElem?_map, Option.map_eq_some_iff] at hk
  obtain ⟨p, hp, he⟩ := hk
  simp only [Prod.mk.injEq] at he
  obtain ⟨rfl, rfl⟩ := he
  refine ⟨a.eval p.2, ?_, ev_rel h p.2⟩
  simp only [Array.toList_map, List.getElem?_map, hp, Option.map_some]

theorem flatten_get {rows : List (List D)} (h : ∀ r ∈ rows, r.length = 1) : ∀ (j : Nat) x, rows.flatten[j]? = some x → ∃ r, rows[j]? = some r ∧ r[0]? = some x := by
  induction rows with
  | nil => simp
  | cons r rows ih =>
    intro j x hj
    have hr := h r (by simp)
    obtain ⟨y, rfl⟩ := List.length_eq_one_iff.mp hr
    cases j with
    | zero => simp at hj; exact ⟨[y], by simp, by simpa using hj⟩
    | succ j =>
      simp at hj
      obtain ⟨r, h1, h2⟩ := ih (fun r hr => h r (by simp [hr])) j x hj
      exact ⟨r, by simpa using h1, h2⟩

theorem rdl_of {w : World} {S : Nat → Prop} : ∀ {ds : List D} {vs : List Value}, ds.length = vs.length → (∀ (j : Nat) x, ds[j]? = some x → ∃ v, vs[j]? = some v ∧ Rd w S v x) → RdL w S ds vs
  | [], [], _, _ => trivial
  | d :: ds, v :: vs, hl, h => by
    obtain ⟨u, h1, h2⟩ := h 0 d (by simp)
    simp at h1; subst h1
    exact ⟨h2, rdl_of (by simpa using hl) fun j x hx => by simpa using h (j + 1) x (by simpa using hx)⟩
  | [], _ :: _, hl, _ => by simp at hl
  | _ :: _, [], hl, _ => by simp at hl

include H in
theorem pbuild_sound (h : SimB G w0 io st a w β) {t : TypeId} {ps : Array (Nat × Operand)} {K : EV → Prop} (hp : pbuild ti t (partsE st ps) K) :
    Reads P (cxOf G w β st) (Instr.build t (ps.map fun (i, x) => (i, a.eval x))) K := by
  unfold pbuild at hp
  split at hp
  case h_2 => exact hp.elim
  rename_i fs ht
  obtain ⟨es, hes, ds, hds, rows, hrows, hk⟩ := hp
  obtain ⟨fields, i, hd, hfa, hi, his, zs, hz, hza⟩ := desc_st H ht
  obtain ⟨hze, hone⟩ := zerosAre_rel (c := cxOf G w β st) hza hes
  have hzd := cellsD_rel hze hds
  have hfl : fields.size = fs.length := by
    have : ∀ {fs : List TypeId} {gs : List Field} {i : Nat}, fieldsAre ti i fs gs = true → fs.length = gs.length := by
      intro fs
      induction fs with
      | nil => intro gs i hh; cases gs <;> simp_all [fieldsAre]
      | cons f fs ih =>
        intro gs i hh
        cases gs with
        | nil => simp [fieldsAre] at hh
        | cons g gs =>
          simp only [fieldsAre, Bool.and_eq_true] at hh
          simp [ih hh.2]
    simpa using (this hfa).symm
  have hesl : es.length = fs.length := by
    have : ∀ {fs : List TypeId} {es : List EV}, zeroEs ti fs = some es → es.length = fs.length := by
      intro fs
      induction fs with
      | nil => intro es h; simp [zeroEs] at h; subst h; rfl
      | cons f fs ih =>
        intro es h
        simp only [zeroEs] at h
        split at h
        · rename_i e es' _ h2; simp at h; subst h; simp [ih h2]
        · simp at h
    exact this hes
  have hzl : zs.size = fs.length := by have := hze.length; simp at this; omega
  have hdl : ds.length = fs.length := by have := hzd.length; simp at this; omega
  let places : Array (Nat × Nat) := fields.map fun f => (f.offset, 1)
  have hpl : ∀ i, i < fs.length → places[i]? = some (i * 1, 1) := by
    intro i hi
    obtain ⟨g, hg, hgt, hgo, _⟩ := fieldsAre_get (ti := ti) hfa (List.getElem?_eq_getElem hi)
    simp only [places, Array.getElem?_map]
    have : fields[i]? = some g := by simpa using hg
    rw [this]; simp [hgo]
  have hpr : ∀ w : World, (fields.mapM fun f => (do pure (f.offset, ← sizeOf f.type) : Sem (Nat × Nat))).run P w = .ok places w := by
    intro w
    rw [Array.mapM_eq_mapM_toList, Sem.run_map]
    rw [run_mapM_ok (g := fun f => (f.offset, 1))]
    · simp only [Result.andThen_ok, places]; congr 1; apply Array.ext'; simp
    · intro f hf
      obtain ⟨j, hj⟩ := List.getElem?_of_mem hf
      have hjl : j < fs.length := by have := (List.getElem?_eq_some_iff.mp hj).1; simp at this; omega
      obtain ⟨g, hg, hgt, hgo, k, hk, hns⟩ := fieldsAre_get (ti := ti) hfa (List.getElem?_eq_getElem hjl)
      rw [hj] at hg; simp at hg; subst hg
      obtain ⟨i', hi', his'⟩ := size_of H hk
      have : szT ti fs[j] = 1 := by
        unfold szT; rw [hk]; cases k <;> first | rfl | exact absurd rfl (hns _)
      have e1 : P.info? f.type = some i' := by rw [hgt]; exact hi'
      simp [sizeOf, typeInfo, e1, his', this]
  have hlit : Lit (cxOf G w β st).w (cxOf G w β st).S 1 (ds.map fun d => [d]) zs := by
    refine ⟨by simp; omega, by simp, ?_⟩
    intro i j r x hr hx
    simp only [List.getElem?_map, Option.map_eq_some_iff] at hr
    obtain ⟨d, hd', rfl⟩ := hr
    have hj : j = 0 := by have := (List.getElem?_eq_some_iff.mp hx).1; simp at this; exact this
    subst hj
    simp at hx; subst hx
    obtain ⟨u, hu, hrd⟩ := hzd.get hd'
    exact ⟨u, by simpa using hu, hrd⟩
  obtain ⟨cs', h1, h2, h3⟩ := fill_rel (c := cxOf G w β st) fs.length hpl (vs := (ps.map fun (i, x) => (i, a.eval x)).toList) (by simp; omega) hlit hrows
    (fun k i e hk => partsE_rel h ps k i e hk) (by simp [partsE])
  refine ⟨_, .agg cs', hk, ?_, ?_⟩
  · simp only [EVR]
    refine ⟨cs'.toList, by simp, rdl_of ?_ ?_⟩
    · have : rows.flatten.length = rows.length := by
        have : ∀ {l : List (List D)}, (∀ r ∈ l, r.length = 1) → l.flatten.length = l.length := by
          intro l
          induction l with
          | nil => simp
          | cons r l ih => intro hh; simp [hh r (by simp)]; have := ih (fun r hr => hh r (by simp [hr])); simp at this; omega
        exact this h2.row
      rw [this]; have := h2.len; simp; omega
    · intro j x hx
      obtain ⟨r, hr, hx0⟩ := flatten_get h2.row j x hx
      obtain ⟨v, hv, hrd⟩ := h2.rd j 0 r x hr hx0
      exact ⟨v, by simpa using hv, hrd⟩
  · simp only [Instr.build, zeroValue, typeInfo, underlying, Sem.run_bind, run_program, Result.andThen_ok, cxOf, hi, hz, hd, Sem.run_pure, Value.cells]
    simp only [hpr, Result.andThen_ok]
    simp only [Array.toList_map] at h1
    simp [h1]

include H in
theorem pbuildSlice_sound (h : SimB G w0 io st a w β) {t : TypeId} {len : Nat} {ps : Array (Nat × Operand)} {K : St → EV → Prop} (hp : pbuildSlice ti t len st (partsE st ps) K) :
    ∃ st' ev' v' w' β', Keeps w w' ∧ K st' ev' ∧ SimB G w0 io st' a w' β' ∧ EVR (cxOf G w' β' st') ev' v' ∧ (Instr.buildSlice t len (ps.map fun (i, x) => (i, a.eval x))).run P w = .ok v' w' := by
  unfold pbuildSlice at hp
  split at hp
  case h_2 => exact hp.elim
  rename_i e ht
  obtain ⟨hlim, es, hes, ds, hds, rows, hrows, hk⟩ := hp
  obtain ⟨hd, j, hj, hjs, hj1, _, _, _, z', hz', hzs'⟩ := desc_sl H ht
  obtain ⟨i, z, hi, hz, hzc, _⟩ := zeroBox_run H hes
  rw [hj] at hi; simp at hi; subst hi
  rw [hz] at hz'; simp at hz'; subst hz'
  have hzs : z.cells.size = szT ti e := by rw [hzs', hjs]
  have hlit := zero_rows (S := (cxOf G w β st).S) (c := cxOf G w β st) hzc hds len (szT ti e) hzs rfl
  obtain ⟨cs', h1, h2, h3⟩ := fill_rel (c := cxOf G w β st) (place := fun i => some (i * szT ti e, szT ti e)) len (fun i _ => rfl) (vs := (ps.map fun (i, x) => (i, a.eval x)).toList) (by simp) hlit hrows
    (fun k i e hk => partsE_rel h ps k i e hk) (by simp [partsE])
  obtain ⟨hn, _⟩ := new_rel (w' := { w with heap := w.heap.push (.cells cs' e) }) (T := e) (cs := cs') (ob := .arr (szT ti e) rows) h
    ⟨h2.row, by have := h2.len; simp; omega, fun i j r x hr hx => by
      obtain ⟨v, h1, h2⟩ := h2.rd i j r x hr hx
      exact ⟨v, by rw [Array.getElem?_toList]; exact h1, h2⟩⟩ rfl
  refine ⟨_, _, .slice (some ⟨w.heap.size, 0, none⟩) len len, _, _, keeps_push (x := .cells cs' e) rfl, hk, hn, own_new (cs := cs') (T := e) rfl (by omega) (Nat.le_refl _) (by have := h2.len; rw [this, h3]; exact Nat.le_refl _), ?_⟩
  have hlim' : ¬ (len * szT ti e > 2 ^ 24) := by simp; omega
  by_cases hz0 : len * szT ti e = 0
  · have h1' : Instr.fill (fun i => some (i * szT ti e, szT ti e)) #[] (ps.map fun (i, x) => (i, a.eval x)).toList = some cs' := by
      have hr0 : Array.range 0 = #[] := rfl
      rw [hz0] at h1
      simpa [hr0] using h1
    have hr0 : Array.range 0 = #[] := rfl
    simp only [Instr.buildSlice, underlying, hd, sizeOf, typeInfo, hj, Sem.run_bind, run_program, Sem.run_pure, Result.andThen_ok, hjs, if_neg hlim']
    simp [hz0, hr0] at h1' ⊢
    simp [h1', newRow]
  · simp only [Instr.buildSlice, underlying, hd, sizeOf, typeInfo, hj, Sem.run_bind, run_program, Sem.run_pure, Result.andThen_ok, hjs, if_neg hlim']
    simp [hz0, zeroValue, typeInfo, hj, hz] at h1 ⊢
    simp [h1, newRow]
end
end Go.RX

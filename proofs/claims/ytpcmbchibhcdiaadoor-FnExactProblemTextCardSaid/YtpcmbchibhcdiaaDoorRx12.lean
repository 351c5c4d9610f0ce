/- RX, part 12: make and the literals. -/
import Derived.Test.YtpcmbchibhcdiaaDoorRx11
namespace Go.RX
open Go

def pmake (ti : TI) (t : TypeId) (st : St) (l c : EV) (K : St → EV → Prop) : Prop :=
  match l, c, ti t with
  | .d (.im (.int _ l)), .d (.im (.int _ c)), some (.sl e) => l = c ∧ 0 ≤ l ∧ l ≤ LIM ∧ ∃ es, zeroBox ti e = some es ∧ ∃ ds, cellsD es = some ds ∧
      K (st.add (.arr (szT ti e) (List.replicate l.toNat ds))) (.own st.nx 0 l.toNat)
  | _, _, _ => False

def fillRows (sz : Nat) : List (List D) → List (Nat × EV) → Option (List (List D))
  | rows, [] => some rows
  | rows, (i, e) :: ps => match cellsOf e with | some ds => if ds.length = sz ∧ i < rows.length then fillRows sz (rows.set i ds) ps else none | none => none

def pbuildSlice (ti : TI) (t : TypeId) (len : Nat) (st : St) (ps : List (Nat × EV)) (K : St → EV → Prop) : Prop :=
  match ti t with
  | some (.sl e) => len * szT ti e ≤ 16777216 ∧ ∃ es, zeroBox ti e = some es ∧ ∃ ds, cellsD es = some ds ∧ ∃ rows, fillRows (szT ti e) (List.replicate len ds) ps = some rows ∧
      K (st.add (.arr (szT ti e) rows)) (.own st.nx 0 len)
  | _ => False

def pbuild (ti : TI) (t : TypeId) (ps : List (Nat × EV)) (K : EV → Prop) : Prop :=
  match ti t with
  | some (.st fs) => ∃ es, zeroEs ti fs = some es ∧ ∃ ds, cellsD es = some ds ∧ ∃ rows, fillRows 1 (ds.map fun d => [d]) ps = some rows ∧ K (.agg rows.flatten)
  | _ => False

theorem foldl_set (off : Nat) : ∀ (vs : List Value) (k : Nat) (cs : Array Value),
    ((vs.zipIdx k).foldl (fun cs (p : Value × Nat) => cs.setIfInBounds (off + p.2) p.1) cs).size = cs.size ∧
    ∀ i, ((vs.zipIdx k).foldl (fun cs (p : Value × Nat) => cs.setIfInBounds (off + p.2) p.1) cs)[i]? =
      if off + k ≤ i ∧ i < off + k + vs.length ∧ i < cs.size then vs[i - (off + k)]? else cs[i]?
  | [], k, cs => ⟨rfl, fun i => by simp; omega⟩
  | v :: vs, k, cs => by
    obtain ⟨h1, h2⟩ := foldl_set off vs (k + 1) (cs.setIfInBounds (off + k) v)
    simp only [List.zipIdx_cons, List.foldl_cons]
    refine ⟨by rw [h1]; simp, fun i => ?_⟩
    rw [h2]
    simp only [Array.size_setIfInBounds, List.length_cons]
    by_cases c1 : off + (k + 1) ≤ i ∧ i < off + (k + 1) + vs.length ∧ i < cs.size
    · rw [if_pos c1, if_pos (by omega), show i - (off + k) = (i - (off + (k + 1))) + 1 by omega]
      simp
    · rw [if_neg c1]
      by_cases c2 : i = off + k
      · subst c2
        by_cases c3 : off + k < cs.size
        · rw [if_pos (by omega)]; simp [c3]
        · rw [if_neg (by omega)]; simp [c3]
      · rw [if_neg (by omega), Array.getElem?_setIfInBounds_ne (by omega)]

/-- the cells of a literal under construction -/
structure Lit (w : World) (S : Nat → Prop) (sz : Nat) (rows : List (List D)) (cs : Array Value) : Prop where
  len : cs.size = rows.length * sz
  row : ∀ r ∈ rows, r.length = sz
  rd : ∀ (i j : Nat) r x, rows[i]? = some r → r[j]? = some x → ∃ v, cs[i * sz + j]? = some v ∧ Rd w S v x

theorem fill_rel {c : Cx} {sz : Nat} {place : Nat → Option (Nat × Nat)} (N : Nat) (hp : ∀ i, i < N → place i = some (i * sz, sz)) : ∀ {ps : List (Nat × EV)} {vs : List (Nat × Value)} {rows rows' : List (List D)} {cs : Array Value},
    rows.length = N → Lit c.w c.S sz rows cs → fillRows sz rows ps = some rows' → (∀ (k : Nat) i e, ps[k]? = some (i, e) → ∃ v, vs[k]? = some (i, v) ∧ EVR c e v) → vs.length = ps.length →
    ∃ cs', Instr.fill place cs vs = some cs' ∧ Lit c.w c.S sz rows' cs' ∧ rows'.length = N
  | [], [], rows, rows', cs, hN, hl, hf, _, _ => by
    simp [fillRows] at hf; subst hf
    exact ⟨cs, by simp [Instr.fill], hl, hN⟩
  | (i, e) :: ps, (i', v) :: vs, rows, rows', cs, hN, hl, hf, hv, hlen => by
    obtain ⟨v', h1, h2⟩ := hv 0 i e (by simp)
    simp at h1
    obtain rfl := h1.1.symm
    obtain rfl := h1.2
    simp only [fillRows] at hf
    split at hf
    case h_2 => simp at hf
    rename_i ds hds
    split at hf
    case isFalse => simp at hf
    rename_i hc
    obtain ⟨hdl, hi⟩ := hc
    have hr := cellsOf_rel h2 hds
    have hvl : v.cells.size = sz := by have := hr.length; simp at this; omega
    have hmul : i * sz + sz ≤ rows.length * sz := by rw [← Nat.succ_mul]; exact Nat.mul_le_mul_right _ hi
    have hsz := hl.len
    have hfold := foldl_set (i * sz) v.cells.toList 0 cs
    have harr : v.cells.zipIdx.foldl (fun cs (x : Value × Nat) => cs.setIfInBounds (i * sz + x.2) x.1) cs = (v.cells.toList.zipIdx 0).foldl (fun cs (p : Value × Nat) => cs.setIfInBounds (i * sz + p.2) p.1) cs := by
      rw [← Array.foldl_toList, Array.toList_zipIdx]
    obtain ⟨cs', h3, h4⟩ := fill_rel (c := c) N hp (ps := ps) (vs := vs) (rows := rows.set i ds) (rows' := rows')
      (cs := v.cells.zipIdx.foldl (fun cs (x : Value × Nat) => cs.setIfInBounds (i * sz + x.2) x.1) cs) (by simpa using hN) (by
        rw [harr]
        refine ⟨by rw [hfold.1]; simpa using hl.len, ?_, ?_⟩
        · intro r hr
          rcases List.mem_or_eq_of_mem_set hr with hr | rfl
          · exact hl.row r hr
          · exact hdl
        · intro k j r x hk hx
          rw [hfold.2]
          simp only [Nat.add_zero, Array.length_toList]
          rw [List.getElem?_set] at hk
          have hj : j < r.length := (List.getElem?_eq_some_iff.mp hx).1
          by_cases hki : i = k
          · subst hki
            rw [if_pos rfl, if_pos hi] at hk
            simp at hk; subst hk
            obtain ⟨u, hu, hrd⟩ := hr.get hx
            refine ⟨u, ?_, hrd⟩
            rw [if_pos (by omega), show i * sz + j - i * sz = j by omega]
            exact hu
          · rw [if_neg hki] at hk
            have hkl := hl.row r (List.mem_of_getElem? hk)
            have : k * sz + j < i * sz ∨ i * sz + sz ≤ k * sz + j := by
              rcases Nat.lt_or_gt_of_ne hki with hlt | hgt
              · right; have : i * sz + sz ≤ k * sz := by rw [← Nat.succ_mul]; exact Nat.mul_le_mul_right _ hlt
                omega
              · left; have : k * sz + sz ≤ i * sz := by rw [← Nat.succ_mul]; exact Nat.mul_le_mul_right _ hgt
                omega
            rw [if_neg (by omega)]
            exact hl.rd k j r x hk hx) hf (fun k i e hk => by simpa using hv (k + 1) i e (by simpa using hk)) (by simpa using hlen)
    refine ⟨cs', ?_, h4⟩
    simp only [Instr.fill, hp i (by omega)]
    rw [if_neg (by simp; omega)]
    exact h3
  | [], _ :: _, _, _, _, _, _, _, _, hlen => by simp at hlen
  | _ :: _, [], _, _, _, _, _, _, _, hlen => by simp at hlen

section
variable {P : Program} {ti : TI} (H : TIok P ti) {G : Nat → Prop} {w0 : World} {io : List (Nat × Nat)} {st : St} {a : Act} {w : World} {β : Beta}

theorem zero_rows {S : Nat → Prop} {es : List EV} {ds : List D} {z : Value} {c : Cx} (hc : ∀ c, EVRs c es z.cells.toList) (hd : cellsD es = some ds) (n sz : Nat) (hsz : z.cells.size = sz) (hc' : c.S = S) :
    Lit c.w S sz (List.replicate n ds) ((Array.range (n * sz)).map fun k => z.cells[k % z.cells.size]!) := by
  have hr := cellsD_rel (hc c) hd
  have hdl : ds.length = sz := by have := hr.length; simp at this; omega
  refine ⟨by simp, ?_, ?_⟩
  · intro r hr; rw [List.eq_of_mem_replicate hr]; exact hdl
  · intro i j r x hi hx
    rw [List.getElem?_replicate] at hi
    split at hi
    · rename_i hin
      simp at hi; subst hi
      obtain ⟨u, hu, hrd⟩ := hr.get hx
      have hj : j < ds.length := (List.getElem?_eq_some_iff.mp hx).1
      have hmul : i * sz + sz ≤ n * sz := by rw [← Nat.succ_mul]; exact Nat.mul_le_mul_right _ hin
      refine ⟨u, ?_, hc' ▸ hrd⟩
      rw [Array.getElem?_map, Array.getElem?_range, if_pos (by omega)]
      simp only [Option.map_some, Option.some.injEq]
      rw [hsz, show (i * sz + j) % sz = j by rw [Nat.mul_comm, Nat.mul_add_mod, Nat.mod_eq_of_lt (by omega)]]
      rw [getElem!_def]
      have : z.cells[j]? = some u := by simpa using hu
      rw [this]
    · simp at hi

theorem own_new {w' : World} {cs : Array Value} {T : TypeId} {sz len cap : Nat} {rows : List (List D)} (hw : w'.heap = w.heap.push (.cells cs T (0, 0))) (hlen : len = rows.length) (hc : len ≤ cap) (hcs : cap * sz ≤ cs.size) :
    EVR (cxOf G w' (upd β st.nx (some (w.heap.size, 0))) (st.add (.arr sz rows))) (.own st.nx 0 len) (.slice (some ⟨w.heap.size, 0, none⟩) len cap) := by
  simp only [EVR]
  refine ⟨Nat.lt_succ_self _, fun ob hob => ?_⟩
  have : ob = .arr sz rows := by
    have e1 : (st.add (.arr sz rows)).o st.nx = some (.arr sz rows) := upd_same _ _ _
    rw [show (cxOf G w' (upd β st.nx (some (w.heap.size, 0))) (st.add (.arr sz rows))).o st.nx = (st.add (.arr sz rows)).o st.nx from rfl, e1] at hob
    simpa using hob.symm
  subst this
  refine ⟨sz, rows, rfl, by omega, ?_⟩
  show match upd β st.nx (some (w.heap.size, 0)) st.nx with | none => _ | some (b, base) => _
  rw [upd_same]
  refine .inl ⟨cap, cs.size, by simp, hc, ⟨cs, T, ?_, rfl⟩, by simpa using hcs⟩
  show w'.heap[w.heap.size]? = _
  rw [hw]; simp

include H in
theorem pmake_sound (h : SimB G w0 io st a w β) {t : TypeId} {l c : EV} {vl vc : Value} {K : St → EV → Prop} (hp : pmake ti t st l c K)
    (hl : EVR (cxOf G w β st) l vl) (hc : EVR (cxOf G w β st) c vc) :
    ∃ st' ev' v' w' β', Keeps w w' ∧ K st' ev' ∧ SimB G w0 io st' a w' β' ∧ EVR (cxOf G w' β' st') ev' v' ∧ (Instr.makeSlice t vl vc).run P w = .ok v' w' := by
  unfold pmake at hp
  split at hp
  case h_2 => exact hp.elim
  rename_i k l k' c e ht
  obtain ⟨rfl, h0, hlim, es, hes, ds, hds, hk⟩ := hp
  obtain ⟨hd, j, hj, hjs, hj1, hjb, hjb', _, _⟩ := desc_sl H ht
  obtain ⟨i, z, hi, hz, hzc, _⟩ := zeroBox_run H hes
  rw [hj] at hi; simp at hi; subst hi
  rw [evr_im hl, evr_im hc]
  have hzs : z.cells.size = szT ti e := by
    obtain ⟨_, j', hj', _, _, _, _, _, z', hz', hzs'⟩ := desc_sl H ht
    rw [hj] at hj'; simp at hj'; subst hj'
    rw [hz] at hz'; simp at hz'; subst hz'
    rw [hzs', hjs]
  have hwrap : IntKind.i64.wrap l = l := by
    unfold LIM at hlim
    simp only [IntKind.wrap, IntKind.bits, IntKind.signed]
    have : l % 18446744073709551616 = l := Int.emod_eq_of_lt h0 (by omega)
    simp only [show (2 : Int) ^ 64 = 18446744073709551616 from rfl, show (2 : Int) ^ (64 - 1) = 9223372036854775808 from rfl, this]
    simp; omega
  have hbig : ¬ ((j.bytes : Int) * l > 2 ^ 48) := by
    have h1 : (j.bytes : Int) * l ≤ 1024 * 68719476736 := by
      unfold LIM at hlim
      exact Int.mul_le_mul (by omega) (by omega) h0 (by omega)
    have : (2 : Int) ^ 48 = 281474976710656 := rfl
    omega
  have hbig' : ¬ (281474976710656 < (j.bytes : Int) * l) := by simpa using hbig
  have hneg : ¬ l < 0 := by omega
  have hlit := zero_rows (S := (cxOf G w β st).S) (c := cxOf G w β st) hzc hds l.toNat (szT ti e) hzs rfl
  let cells := (Array.range (l.toNat * szT ti e)).map fun k => z.cells[k % z.cells.size]!
  obtain ⟨hn, _⟩ := new_rel (w' := { w with heap := w.heap.push (.cells cells e) }) (T := e) (cs := cells) (ob := .arr (szT ti e) (List.replicate l.toNat ds)) h
    ⟨hlit.row, by have := hlit.len; simp [cells], fun i j r x hr hx => by
      obtain ⟨v, h1, h2⟩ := hlit.rd i j r x hr hx
      exact ⟨v, by rw [Array.getElem?_toList]; exact h1, h2⟩⟩ rfl
  refine ⟨_, _, .slice (some ⟨w.heap.size, 0, none⟩) l.toNat l.toNat, _, _, keeps_push (x := .cells cells e) rfl, hk, hn, own_new (cs := cells) (T := e) rfl (by simp) (Nat.le_refl _) (by simp [cells]), ?_⟩
  simp only [Instr.makeSlice, underlying, hd, asInt, asIntOf, typeInfo, hj, sizeOf, Sem.run_bind, run_program, Sem.run_pure, Result.andThen_ok]
  simp only [hwrap]
  by_cases hz0 : l.toNat * j.size = 0
  · have hz0' : l.toNat * szT ti e = 0 := by rw [← hjs]; exact hz0
    have hr0 : Array.range 0 = #[] := rfl
    simp [hneg, hbig', hj, hjs, newRow, cells, hz0', hr0]
  · have hz0' : ¬ (l.toNat * szT ti e = 0) := by rw [← hjs]; exact hz0
    simp [hneg, hbig', zeroValue, typeInfo, hj, hz, newRow, cells, hjs, hz0']
end
end Go.RX

/- RX, part 20: a contract, out of the transformer of the body. -/
import Derived.Test.YtpcmbchibhcdiaaDoorRx19
namespace Go.RX
open Go

def initE (i : Nat) : AV → EV
  | .d x => .d x
  | .agg ds => .agg ds
  | .io _ => .ptr i 0 0
def initT : Nat → List AV → List EV
  | _, [] => []
  | i, a :: as => initE i a :: initT (i + 1) as
def initO : Nat → List AV → Heap
  | _, [] => fun _ => none
  | i, .io ds :: as => upd (initO (i + 1) as) i (some (.box (ds.map .d)))
  | i, _ :: as => initO (i + 1) as
def initSt (ntmps : Nat) (args : List AV) : St := ⟨initT 0 args ++ List.replicate (ntmps - args.length) .dead, initO 0 args, max 4 args.length⟩
def ioArgs : Nat → List AV → List Nat
  | _, [] => []
  | i, .io _ :: as => i :: ioArgs (i + 1) as
  | i, _ :: as => ioArgs (i + 1) as

def ioLens : List AV → List Nat
  | [] => []
  | .io ds :: as => ds.length :: ioLens as
  | _ :: as => ioLens as

/-- the value of a result variable -/
def resVal (ti : TI) (st : St) : ResultVar → Option EV
  | .tmp t => st.t[t]?
  | .cell a ty => match st.t[a]? with
    | some (.ptr n row fld) => match st.o n with
      | some (.box cells) => if row = 0 then (match isSt ti ty with
          | some false => cells[fld]?
          | some true => if fld + szT ti ty ≤ cells.length then (match cellsD ((cells.drop fld).take (szT ti ty)) with | some ds => some (.agg ds) | none => none) else none
          | none => none) else none
      | _ => none
    | _ => none
def frzRes (ti : TI) (st : St) : List ResultVar → List Bool → St
  | [], _ => st
  | .tmp t :: rs, m => frzRes ti (frzBox (if m.headD false then st else frzOf st ((st.t[t]?).getD .dead)) ((st.t[t]?).getD .dead)) rs m.tail
  | .cell a ty :: rs, m => frzRes ti (if isSt ti ty = some true then frzBox st ((st.t[a]?).getD .dead) else st) rs m.tail
def resRV (st : St) (own : Bool) : EV → Option RV
  | .d x => some (.d x)
  | .nil sz => if own then some (.own sz []) else some (.d (.sl sz []))
  | .agg ds => some (.agg ds)
  | .own n off len => if own then (match st.o n with | some (.arr sz rows) => some (.own sz ((rows.drop off).take len)) | _ => none) else none
  | .ptr n row fld => if row = 0 ∧ fld = 0 then (match st.o n with | some (.box cells) => (match cellsD cells with | some ds => some (.bx ds) | none => none) | _ => none) else none
  | _ => none
def ressRV (ti : TI) (st : St) : List ResultVar → List Bool → Option (List RV)
  | [], _ => some []
  | r :: rs, m => match resVal ti st r with
    | some e => (match resRV st (m.headD false) e, ressRV ti st rs m.tail with | some x, some xs => some (x :: xs) | _, _ => none)
    | none => none
def ressOwn (ti : TI) (st : St) : List ResultVar → List Nat
  | [] => []
  | r :: rs => (match resVal ti st r with | some (.own n _ _) => [n] | some (.ptr n _ _) => [n] | _ => []) ++ ressOwn ti st rs
def iosVal (st : St) : List Nat → Option (List (List D))
  | [] => some []
  | n :: ns => match st.o n with
    | some (.box cells) => (match cellsD cells, iosVal st ns with | some c, some cs => some (c :: cs) | _, _ => none)
    | _ => none
def frzIos (st : St) : List Nat → St
  | [] => st
  | n :: ns => frzIos (match st.o n with | some (.box cells) => frzCells st cells | _ => st) ns

def Dflat : D → Prop
  | .im _ => True
  | .sl _ rows => rows = []
def RVflat : RV → Prop
  | .d x => Dflat x
  | .agg cells => ∀ x ∈ cells, Dflat x
  | .own _ rows => ∀ r ∈ rows, ∀ x ∈ r, Dflat x
  | .bx cells => ∀ x ∈ cells, Dflat x

def Rets (ti : TI) (fresh : Bool) (rvs : List ResultVar) (m : List Bool) (ns ls : List Nat) (post : Post) (st : St) : Prop :=
  let st1 := frzIos (frzRes ti st rvs m) ns
  ∃ rs, ressRV ti st1 rvs m = some rs ∧ (ressOwn ti st1 rvs ++ ns).Nodup ∧ ∃ ios, iosVal st1 ns = some ios ∧ ios.map List.length = ls ∧
    (fresh = true → (∀ r ∈ rs, RVflat r) ∧ ∀ c ∈ ios, ∀ x ∈ c, Dflat x) ∧ post rs ios

def Exits (ti : TI) (fresh : Bool) (rvs : List ResultVar) (m : List Bool) (ns ls : List Nat) (post : Post) : Exit → St → Prop
  | .normal, st => Rets ti fresh rvs m ns ls post st
  | .ret, st => Rets ti fresh rvs m ns ls post st
  | _, _ => False

theorem Rd.flat {w : World} {S S' : Nat → Prop} {v : Value} {x : D} (hf : Dflat x) (h : Rd w S v x) : Rd w S' v x := by
  cases h with
  | im v h => exact .im v h
  | nil a c sz => exact .nil a c sz
  | sl b off c sz rows f hS hc hz hv hr =>
    simp only [Dflat] at hf
    subst hf
    exact .nil _ _ _
theorem RdL.flat {w : World} {S S' : Nat → Prop} : ∀ {xs : List D} {vs : List Value}, (∀ x ∈ xs, Dflat x) → RdL w S xs vs → RdL w S' xs vs
  | [], [], _, _ => trivial
  | x :: xs, v :: vs, hf, h => ⟨h.1.flat (hf x (by simp)), RdL.flat (fun y hy => hf y (by simp [hy])) h.2⟩
  | [], _ :: _, _, h => h.elim
  | _ :: _, [], _, h => h.elim

section
variable {G : Nat → Prop} {w0 : World} {io : List (Nat × Nat)} {st : St} {a : Act} {w : World} {β : Beta} {ti : TI}

theorem frzRes_rel : ∀ {rvs : List ResultVar} {m : List Bool} {st : St}, SimB G w0 io st a w β → SimB G w0 io (frzRes ti st rvs m) a w β
  | [], _, _, h => h
  | .tmp t :: rs, m, st, h => frzRes_rel (rvs := rs) (m := m.tail) (st := frzBox (if m.headD false then st else frzOf st ((st.t[t]?).getD .dead)) ((st.t[t]?).getD .dead)) (frzBox_rel (by split; exact h; exact frzOf_rel h _) _)
  | .cell b ty :: rs, m, st, h => frzRes_rel (rvs := rs) (m := m.tail) (st := if isSt ti ty = some true then frzBox st ((st.t[b]?).getD .dead) else st) (by split; exact frzBox_rel h _; exact h)
theorem frzIos_rel : ∀ {ns : List Nat} {st : St}, SimB G w0 io st a w β → SimB G w0 io (frzIos st ns) a w β
  | [], _, h => h
  | n :: ns, st, h => frzIos_rel (ns := ns) (st := match st.o n with | some (.box cells) => frzCells st cells | _ => st) (by split; exact frzCells_rel h; exact h)

variable {P : Program}
theorem resVal_rel (H : TIok P ti) (h : SimB G w0 io st a w β) {r : ResultVar} {e : EV} (he : resVal ti st r = some e) :
    ∃ v, EVR (cxOf G w β st) e v ∧ (match r with | .tmp t => (pure (a.tmps.getD t undef) : Sem Value) | .cell b t => do loadVar t (← asAddr (a.tmps.getD b undef))).run P w = .ok v w := by
  cases r with
  | tmp t =>
    simp only [resVal] at he
    obtain ⟨v, hv, hr⟩ := EVRs.get' h.tmps he
    exact ⟨v, hr, by simp [Array.getD_eq_getD_getElem?]; have : a.tmps[t]? = some v := by simpa using hv
                     rw [this]; rfl⟩
  | cell b ty =>
    simp only [resVal] at he
    split at he
    case h_2 => simp at he
    rename_i n row fld hb
    obtain ⟨v, hv, hr⟩ := EVRs.get' h.tmps hb
    have hv' : a.tmps.getD b undef = v := by
      have : a.tmps[b]? = some v := by simpa using hv
      simp [Array.getD_eq_getD_getElem?, this]
    have key : ∀ K : EV → Prop, pload ti st ty (.ptr n row fld) K → Reads P (cxOf G w β st) (Instr.loadAt ty v) K := fun K hk => pload_sound H rfl h.objs hk hr
    have fin : ∀ e', pload ti st ty (.ptr n row fld) (fun x => x = e') → ∃ u, EVR (cxOf G w β st) e' u ∧ (do loadVar ty (← asAddr (a.tmps.getD b undef)) : Sem Value).run P w = .ok u w := by
      intro e' hp
      obtain ⟨e2, u, rfl, hu, hrun⟩ := key _ hp
      refine ⟨u, hu, ?_⟩
      rw [hv']
      have hrun' : (Instr.loadAt ty v).run P w = .ok u w := hrun w (Keeps.refl _)
      cases v <;> simp [Instr.loadAt, Instr.sureAddr] at hrun' ⊢
      rename_i ad
      cases ad <;> simp [asAddr] at hrun' ⊢
      exact hrun'
    split at he
    case h_2 => simp at he
    rename_i cells hob
    split at he
    case isFalse => simp at he
    rename_i hrow
    subst hrow
    split at he
    · rename_i hs
      exact fin e (by simp only [pload, hob, hs]; exact ⟨trivial, e, he, rfl⟩)
    · rename_i hs
      split at he
      case isFalse => simp at he
      rename_i hle
      split at he
      case h_2 => simp at he
      rename_i ds hds
      simp at he; subst he
      exact fin _ (by simp only [pload, hob, hs]; exact ⟨trivial, hle, ds, hds, rfl⟩)
    · simp at he

def resSem (tmps : Array Value) : ResultVar → Sem Value
  | .tmp t => pure (tmps.getD t undef)
  | .cell b t => do loadVar t (← asAddr (tmps.getD b undef))

theorem ress_rel (H : TIok P ti) (h : SimB G w0 io st a w β) : ∀ {rvs : List ResultVar} {m : List Bool} {rs : List RV}, ressRV ti st rvs m = some rs → (ressOwn ti st rvs).Nodup →
    ∃ (vs : List Value) (obs : List Nat), (rvs.mapM (resSem a.tmps)).run P w = .ok vs w ∧ obs.Nodup ∧
      (∀ b ∈ obs, ∃ n ob base, n ∈ ressOwn ti st rvs ∧ st.o n = some ob ∧ β n = some (b, base)) ∧
      ∀ S' : Nat → Prop, ((∀ k, SafeOf G w β st.o k → S' k) ∨ ∀ r ∈ rs, RVflat r) → RessR w S' rs vs obs
  | [], m, rs, hr, _ => by
    simp [ressRV] at hr; subst hr
    exact ⟨[], [], by simp, by simp, by simp, fun _ _ => by simp [RessR]⟩
  | r :: rvs, m, rs, hr, hnd => by
    simp only [ressRV] at hr
    split at hr
    case h_2 => simp at hr
    rename_i e he
    split at hr
    case h_2 => simp at hr
    rename_i x xs hx hxs
    simp at hr; subst hr
    have hnd2 : (ressOwn ti st rvs).Nodup := by simp only [ressOwn] at hnd; exact (List.nodup_append.mp hnd).2.1
    obtain ⟨vs, obs, h1, h2, h3, h4⟩ := ress_rel H h hxs hnd2
    obtain ⟨v, hv, hrun⟩ := resVal_rel (P := P) H h he
    have hrun' : (resSem a.tmps r).run P w = .ok v w := by cases r <;> exact hrun
    have hm : ((r :: rvs).mapM (resSem a.tmps)).run P w = .ok (v :: vs) w := by simp [hrun', h1]
    have h3' : ∀ b ∈ obs, ∃ n ob base, n ∈ ressOwn ti st (r :: rvs) ∧ st.o n = some ob ∧ β n = some (b, base) := by
      intro b hb
      obtain ⟨n, ob, base, h5, h6, h7⟩ := h3 b hb
      exact ⟨n, ob, base, by simp [ressOwn, h5], h6, h7⟩
    have plain : ∀ S', (((∀ k, SafeOf G w β st.o k → S' k) ∨ RVflat x) → ResR w S' x v []) → ((∀ k, SafeOf G w β st.o k → S' k) ∨ ∀ r ∈ x :: xs, RVflat r) → RessR w S' (x :: xs) (v :: vs) obs := by
      intro S' hres hS
      refine ⟨[], obs, rfl, hres (hS.imp id fun h => h x (by simp)), h4 S' (hS.imp id fun h r hr => h r (by simp [hr]))⟩
    cases e with
    | dead => simp [resRV] at hx
    | d y =>
      simp [resRV] at hx; subst hx
      simp only [EVR] at hv
      refine ⟨_, obs, hm, h2, h3', fun S' => plain S' fun hS => ⟨?_, rfl⟩⟩
      rcases hS with hS | hS
      · exact hv.mono fun k hk => ⟨hS k hk, rfl⟩
      · exact hv.flat hS
    | nil sz =>
      simp only [EVR] at hv
      obtain ⟨ad, rfl⟩ := hv
      simp only [resRV] at hx
      split at hx
      · simp at hx; subst hx
        exact ⟨_, obs, hm, h2, h3', fun S' => plain S' fun hS => ⟨by simp, .inl ⟨rfl, ⟨ad, rfl⟩, rfl⟩⟩⟩
      · simp at hx; subst hx
        exact ⟨_, obs, hm, h2, h3', fun S' => plain S' fun hS => ⟨.nil _ _ _, rfl⟩⟩
    | agg ds =>
      simp [resRV] at hx; subst hx
      simp only [EVR] at hv
      obtain ⟨us, rfl, hv⟩ := hv
      refine ⟨_, obs, hm, h2, h3', fun S' => plain S' fun hS => ⟨⟨us, rfl, ?_⟩, rfl⟩⟩
      rcases hS with hS | hS
      · exact hv.mono fun k hk => ⟨hS k hk, rfl⟩
      · exact hv.flat hS
    | own n off len =>
      simp only [resRV] at hx
      split at hx
      case isFalse => simp at hx
      split at hx
      case h_2 => simp at hx
      rename_i sz rows hob
      simp at hx; subst hx
      obtain ⟨vals, hfl, hlen, hz, hc⟩ := own_cells h hob hv
      rcases hc with ⟨b, base, cs, T, cap, hβ, hh, rfl, hcap, hkc, hcells⟩ | ⟨ad, rfl, h0⟩
      · have hnn : n ∉ ressOwn ti st rvs := by
          simp only [ressOwn, he] at hnd
          simp at hnd
          exact hnd.1
        refine ⟨_, b :: obs, hm, ?_, ?_, ?_⟩
        · simp only [List.nodup_cons]
          refine ⟨fun hb => ?_, h2⟩
          obtain ⟨n', ob', base', h5, h6, h7⟩ := h3 b hb
          have hne : n ≠ n' := fun he => hnn (he ▸ h5)
          exact h.apart n n' _ _ _ _ hob h6 hβ h7 hne rfl
        · intro b' hb'
          simp at hb'
          rcases hb' with rfl | hb'
          · exact ⟨n, _, base, by simp [ressOwn, he], hob, hβ⟩
          · exact h3' b' hb'
        · intro S' hS
          refine ⟨[b], obs, rfl, ⟨hz, .inr ⟨b, base + off * sz, cap, cs, T, by rw [hlen], by omega, rfl, hh, ?_, ?_⟩⟩, h4 S' (hS.imp id fun h r hr => h r (by simp [hr]))⟩
          · rw [Nat.add_mul] at hkc; omega
          · intro i j r x hr hx
            obtain ⟨u, hu, hrd⟩ := hfl.rd i j r x hr hx
            refine ⟨u, by have := hcells _ u hu; rw [show base + off * sz + i * sz + j = base + off * sz + (i * sz + j) by omega]; exact this, ?_⟩
            rcases hS with hS | hS
            · exact hrd.mono fun k hk => ⟨hS k hk, rfl⟩
            · exact hrd.flat (hS (.own sz ((rows.drop off).take len)) (by simp) r (List.mem_of_getElem? hr) x (List.mem_of_getElem? hx))
      · subst h0
        refine ⟨_, obs, hm, h2, h3', fun S' => plain S' fun hS => ⟨hz, .inl ⟨by simp, ⟨ad, rfl⟩, rfl⟩⟩⟩
    | ptr n row fld =>
      simp only [resRV] at hx
      split at hx
      case isFalse => simp at hx
      rename_i hrf
      obtain ⟨rfl, rfl⟩ := hrf
      split at hx
      case h_2 => simp at hx
      rename_i cells hob
      split at hx
      case h_2 => simp at hx
      rename_i ds hds
      simp at hx; subst hx
      simp only [EVR] at hv
      obtain ⟨b, base, hβ, rfl⟩ := hv.2 _ hob
      obtain ⟨b', cs, T, hβ', hh, hr⟩ := h.objs n _ hob
      have hβ'' : (cxOf G w β st).β n = some (b, base) := hβ
      rw [hβ'] at hβ''
      simp at hβ''
      obtain ⟨rfl, rfl⟩ := hβ''
      have hnn : n ∉ ressOwn ti st rvs := by
        simp only [ressOwn, he] at hnd
        simp at hnd
        exact hnd.1
      refine ⟨_, b' :: obs, hm, ?_, ?_, ?_⟩
      · simp only [List.nodup_cons]
        refine ⟨fun hb => ?_, h2⟩
        obtain ⟨n', ob', base', h5, h6, h7⟩ := h3 b' hb
        have hne : n ≠ n' := fun he => hnn (he ▸ h5)
        exact h.apart n n' _ _ _ _ hob h6 hβ h7 hne rfl
      · intro k hk
        simp at hk
        rcases hk with rfl | hk
        · exact ⟨n, _, 0, by simp [ressOwn, he], hob, hβ⟩
        · exact h3' k hk
      · intro S' hS
        refine ⟨[b'], obs, rfl, ⟨b', T, cs.toList, by simp [Obj.sz], rfl, by rw [Array.toArray_toList]; exact hh, ?_⟩, h4 S' (hS.imp id fun h r hr => h r (by simp [hr]))⟩
        have hrd := cellsD_rel hr hds
        rcases hS with hS | hS
        · exact hrd.mono fun k hk => ⟨hS k hk, rfl⟩
        · exact hrd.flat (hS (.bx ds) (by simp))
    | rptr cs => simp [resRV] at hx
    | tup xs => simp [resRV] at hx

theorem iosVal_rel (h : SimB G w0 io st a w β) : ∀ {ns : List Nat} {bs : List Nat} {ios : List (List D)}, (∀ p ∈ ns.zip bs, β p.1 = some (p.2, 0)) → ns.length = bs.length → iosVal st ns = some ios →
    (∀ b ∈ bs, ∃ n cells, n ∈ ns ∧ st.o n = some (.box cells) ∧ β n = some (b, 0)) ∧ ∀ S' : Nat → Prop, ((∀ k, SafeOf G w β st.o k → S' k) ∨ ∀ c ∈ ios, ∀ x ∈ c, Dflat x) → IosR w S' ios bs
  | [], [], ios, _, _, hi => by simp [iosVal] at hi; subst hi; exact ⟨by simp, fun _ _ => by simp [IosR]⟩
  | n :: ns, b :: bs, ios, hp, hl, hi => by
    simp only [iosVal] at hi
    split at hi
    case h_2 => simp at hi
    rename_i cells hob
    split at hi
    case h_2 => simp at hi
    rename_i c cs hc hcs
    simp at hi; subst hi
    obtain ⟨h1, h2⟩ := iosVal_rel h (ns := ns) (bs := bs) (fun p hpp => hp p (by simp [hpp])) (by simpa using hl) hcs
    have hb : β n = some (b, 0) := hp (n, b) (by simp)
    obtain ⟨b', vs, T, hβ', hh, hr⟩ := h.objs n _ hob
    have hb' : β n = some (b', 0) := hβ'
    rw [hb] at hb'; simp at hb'; subst hb'
    refine ⟨?_, fun S' hS => ⟨⟨T, vs.toList, by rw [Array.toArray_toList]; exact hh, ?_⟩, h2 S' (hS.imp id fun h c hc => h c (by simp [hc]))⟩⟩
    · intro k hk
      simp at hk
      rcases hk with rfl | hk
      · exact ⟨n, cells, by simp, hob, hb⟩
      · obtain ⟨m, cl, h3, h4, h5⟩ := h1 k hk
        exact ⟨m, cl, by simp [h3], h4, h5⟩
    · have hrd := cellsD_rel hr hc
      rcases hS with hS | hS
      · exact hrd.mono fun k hk => ⟨hS k hk, rfl⟩
      · exact hrd.flat (hS c (by simp))
  | [], _ :: _, _, _, hl, _ => by simp at hl
  | _ :: _, [], _, _, hl, _ => by simp at hl
end
end Go.RX

/- VX, part 7: operations, one by one: a typed evaluation is one of RX. -/
import Derived.Test.YtpcmbchibhcdiaaDoorVx6
namespace Go.RX
open Go

def VA.av : VA → AV
  | .v T x => (match vE T x with | .d d => .d d | .agg ds => .agg ds | _ => .agg [])
  | .io cells => .io (cells.map fun c => (c.1.cells c.2).headD (.im undef))
def VR.rv : VR → RV
  | .v T x => (match vE T x with | .d d => .d d | .agg ds => .agg ds | _ => .agg [])
  | .own T rows => .own T.w (rows.map T.cells)
  | .bx cells => .bx (cells.map fun c => (c.1.cells c.2).headD (.im undef))
def vvD (c : VV) : D := (c.1.cells c.2).headD (.im undef)
def VR.ok : VR → Bool
  | .v T _ => T.ok && (match T with | .byte => false | _ => true)
  | .own T _ => T.ok
  | .bx cells => cells.all fun c => c.1.ok && c.1.atom
structure VOk (ven : VEn) (ren : En) : Prop where
  ty : ∀ t T, ven.ty t = some T → rowTy ren.ti t T = true
  oth : ∀ t, ven.oth t = true → ren.ti t = some .oth
  eqT : ∀ t, ven.eqT t = true → eqOkB ren.P ren.ti t = true
  fr : ∀ f, ven.fr f = ren.fr f
  call : ∀ f avs K, ven.call f avs K → ∃ rs ios, K rs ios ∧ (∀ K' : List VR → List (List VV) → Prop, K' rs ios → ven.call f avs K') ∧ rs.length ≤ 8 ∧ rs.all VR.ok = true ∧
    (∀ c ∈ ios, ∀ x ∈ c, x.1.ok = true ∧ x.1.atom = true) ∧ Con ren.P ren.W0 f (ren.fr f) (avs.map VA.av) (fun r i => r = rs.map VR.rv ∧ i = ios.map fun c => c.map vvD)

variable {nt : Nat} {f : Nat → Nat} {vs : VSt} {st : St} {ven : VEn} {ren : En} {b : Nat} {o : Oper} {K : TV → Ups → Prop}

/-- which names may be written -/
def UpsOk (h : VH) (b : Nat) (us : Ups) : Prop := ∀ u ∈ us, hget h u.1 ≠ .free ∨ (b ≤ u.1 ∧ u.1 < b + 8)
/-- RX does the same -/
def OpR (nt : Nat) (ren : En) (vs : VSt) (st : St) (o : Oper) (v : TV) (us : Ups) : Prop :=
  ∀ KE : St → Prop, (∀ st' f' e, Rel nt f' (vs.up us) st' → relV (hup vs.h us) f' v e → KE (st'.put o.dst e)) → EWop ren o st KE
def OpRes (nt : Nat) (ven : VEn) (ren : En) (b : Nat) (vs : VSt) (st : St) (o : Oper) (K : TV → Ups → Prop) : Prop :=
  ∃ v us, K v us ∧ (∀ K' : TV → Ups → Prop, K' v us → vop ven b vs.h vs.t o K') ∧ UpsOk vs.h b us ∧ OpR nt ren vs st o v us

theorem UpsOk.nil {h : VH} {b : Nat} : UpsOk h b [] := fun _ hu => by cases hu
theorem UpsOk.append {h : VH} {b : Nat} {us ws : Ups} (h1 : UpsOk h b us) (h2 : UpsOk h b ws) : UpsOk h b (us ++ ws) := fun u hu => by
  rcases List.mem_append.mp hu with hu | hu
  · exact h1 u hu
  · exact h2 u hu
theorem UpsOk.one {h : VH} {b n : Nat} {s : Slot} (hn : hget h n ≠ .free ∨ (b ≤ n ∧ n < b + 8)) : UpsOk h b [(n, s)] := fun u hu => by
  simp at hu; subst hu; exact hn
theorem UpsOk.frz1 {h : VH} {b : Nat} (a : TA) : UpsOk h b (frz1 h a) := by
  intro u hu
  cases a with
  | own n sg =>
    simp only [Go.RX.frz1] at hu
    split at hu
    · rename_i T rows hs
      simp at hu; subst hu
      exact .inl (by rw [hs]; simp)
    · cases hu
  | _ => cases hu
theorem taken_hup : ∀ {us : Ups} {h : VH} {n : Nat}, hget (hup h us) n ≠ .free → hget h n ≠ .free ∨ ∃ u ∈ us, u.1 = n
  | [], h, n, hf => .inl hf
  | u :: us, h, n, hf => by
    rcases taken_hup (us := us) (h := u :: h) hf with h1 | ⟨v, hv, he⟩
    · rw [hget_cons] at h1
      split at h1
      · rename_i he; exact .inr ⟨u, by simp, he⟩
      · exact .inl h1
    · exact .inr ⟨v, by simp [hv], he⟩
theorem UpsOk.later {h : VH} {b : Nat} {us ws : Ups} (h2 : UpsOk (hup h us) b ws) (h1 : UpsOk h b us) : UpsOk h b ws := by
  intro w hw
  rcases h2 w hw with h3 | h3
  · rcases taken_hup h3 with h4 | ⟨u, hu, he⟩
    · exact .inl h4
    · rw [← he]; exact h1 u hu
  · exact .inr h3
theorem UpsOk.frzL {b : Nat} : ∀ {as : List TA} {h : VH}, UpsOk h b (frzL h as)
  | [], h => UpsOk.nil
  | a :: as, h => (UpsOk.frz1 a).append (UpsOk.later (UpsOk.frzL (as := as)) (UpsOk.frz1 a))
theorem UpsOk.frzB {b : Nat} {h : VH} (a : TA) : UpsOk h b (frzB h a) := by
  unfold Go.RX.frzB
  split
  · split
    · exact UpsOk.frzL
    · exact UpsOk.nil
  · exact UpsOk.nil
theorem UpsOk.frzA {b : Nat} {h : VH} (fresh : Bool) (a : TA) : UpsOk h b (frzA fresh h a) := by
  unfold Go.RX.frzA
  have h1 : UpsOk h b (if fresh then [] else Go.RX.frz1 h a) := by split; exact UpsOk.nil; exact UpsOk.frz1 a
  exact h1.append (UpsOk.later (UpsOk.frzB a) h1)
theorem UpsOk.frzAs {b : Nat} (fresh : Bool) : ∀ {as : List TA} {h : VH}, UpsOk h b (frzAs fresh h as)
  | [], h => UpsOk.nil
  | a :: as, h => (UpsOk.frzA fresh a).append (UpsOk.later (UpsOk.frzAs fresh (as := as)) (UpsOk.frzA fresh a))

/-! ### operands -/
theorem vo_rel (h : Rel nt f vs st) (x : Operand) : relA vs.h f (vo vs.t x) (ev st x) := by
  cases x with
  | tmp i =>
    simp only [vo, ev]
    cases hl : lk vs.t i with
    | none => trivial
    | some v =>
      obtain ⟨e, he, hr⟩ := h.t i v hl
      cases v with
      | a x => simp only [tvA, he, Option.getD_some]; exact hr
      | tup xs => trivial
  | const v => simp only [vo, ev]; unfold cvTA cv; cases v <;> first | trivial | exact ⟨rfl, rfl⟩
  | func g => rfl
  | global g => trivial
theorem voT_rel (H : VOk ven ren) (h : Rel nt f vs st) (tt : TypeId) (x : Operand) : relA vs.h f (voT ven.ty tt vs.t x) (evT ren.ti tt st x) := by
  by_cases hx : x = .const (.slice none 0 0)
  · subst hx
    simp only [voT, evT]
    unfold nilTy
    split
    · rename_i r hr
      have h1 := H.ty _ _ hr
      exact ⟨by simpa [Ty.ok] using (rowTy_ok h1).1, by rw [rowTy_elem h1]⟩
    · trivial
  · have e1 : voT ven.ty tt vs.t x = vo vs.t x := by unfold voT; split <;> first | rfl | (exact absurd rfl hx)
    have e2 : evT ren.ti tt st x = ev st x := by unfold evT; split <;> first | rfl | (exact absurd rfl hx)
    rw [e1, e2]
    exact vo_rel h x
theorem voTs_rel (H : VOk ven ren) (h : Rel nt f vs st) (ts : List TypeId) (xs : List Operand) : All2 (relA vs.h f) (voTs ven.ty vs.t ts xs) (evTs ren.ti st ts xs) := by
  unfold voTs evTs
  generalize ts.zip xs = l
  induction l with
  | nil => trivial
  | cons p l ih => exact ⟨voT_rel H h p.1 p.2, ih⟩

/-! ### operations that only read -/
theorem res_read {a : TV} {e : EV} (h : Rel nt f vs st) (hK : K a []) (hx : ∀ K' : TV → Ups → Prop, K' a [] → vop ven b vs.h vs.t o K') (hr : relV vs.h f a e) (hE : ∀ KE : St → Prop, KE (st.put o.dst e) → EWop ren o st KE) :
    OpRes nt ven ren b vs st o K :=
  ⟨a, [], hK, hx, UpsOk.nil, fun KE hk => hE KE (hk st f e h hr)⟩

theorem vop_move (H : VOk ven ren) (h : Rel nt f vs st) {x : Operand} (ho : o.op = .move x) (hk : vop ven b vs.h vs.t o K) : OpRes nt ven ren b vs st o K := by
  have hk' := hk
  simp only [vop, ho] at hk'
  have fin : ∀ a : TV, K a [] → (∀ K' : TV → Ups → Prop, K' a [] → vmove ven.ty o.type vs.t x fun a => K' a []) → relV vs.h f a (evT ren.ti o.type st x) → OpRes nt ven ren b vs st o K := fun a h1 h2 h3 =>
    res_read h h1 (fun K' hk => by simp only [vop, ho]; exact h2 K' hk) h3 (fun KE hk => by simp only [EWop, ho]; exact hk)
  cases x with
  | tmp i =>
    simp only [vmove] at hk'
    have hev : evT ren.ti o.type st (.tmp i) = (st.t[i]?).getD .dead := by simp [evT, ev]
    cases hl : lk vs.t i with
    | none =>
      rw [hl] at hk'
      exact fin (.a .dead) hk' (fun K' hk => by simp only [vmove, hl]; exact hk) trivial
    | some v =>
      obtain ⟨e, he, hr⟩ := h.t i v hl
      rw [hl] at hk'
      cases v with
      | a y => exact fin (.a y) hk' (fun K' hk => by simp only [vmove, hl]; exact hk) (by rw [hev, he]; exact hr)
      | tup ys => exact fin (.tup ys) hk' (fun K' hk => by simp only [vmove, hl]; exact hk) (by rw [hev, he]; exact hr)
  | const v => exact fin _ hk' (fun K' hk => hk) (voT_rel H h o.type (.const v))
  | func g => exact fin _ hk' (fun K' hk => hk) (voT_rel H h o.type (.func g))
  | global g => exact fin _ hk' (fun K' hk => hk) (voT_rel H h o.type (.global g))

theorem vop_assign (H : VOk ven ren) (h : Rel nt f vs st) {x : Operand} (ho : o.op = .assign x) (hk : vop ven b vs.h vs.t o K) : OpRes nt ven ren b vs st o K := by
  have hk' := hk
  simp only [vop, ho] at hk'
  exact res_read h hk' (fun K' hk => by simp only [vop, ho]; exact hk) (a := .a _) (voT_rel H h o.type x) (fun KE hk => by simp only [EWop, ho]; exact hk)

theorem vop_pick (H : VOk ven ren) (h : Rel nt f vs st) {c x y : Operand} (ho : o.op = .pick c x y) (hk : vop ven b vs.h vs.t o K) : OpRes nt ven ren b vs st o K := by
  have hk' := hk
  simp only [vop, ho, vpick] at hk'
  split at hk'
  case h_2 => exact hk'.elim
  rename_i bb hc
  have hcr := vo_rel h c
  rw [hc] at hcr
  obtain ⟨_, hce⟩ := hcr
  cases bb
  · refine res_read h (a := .a _) hk' (fun K' hk => by simp only [vop, ho, vpick, hc]; exact hk) (voT_rel H h o.type y) (fun KE hk => ?_)
    simp only [EWop, ho, hce, vE]
    exact ⟨fun h => by simp at h, fun _ => hk⟩
  · refine res_read h (a := .a _) hk' (fun K' hk => by simp only [vop, ho, vpick, hc]; exact hk) (voT_rel H h o.type x) (fun KE hk => ?_)
    simp only [EWop, ho, hce, vE]
    exact ⟨fun _ => hk, fun h => by simp at h⟩

theorem vop_nil (h : Rel nt f vs st) {x : Operand} (ho : o.op = .nilCheck x) (hk : vop ven b vs.h vs.t o K) : OpRes nt ven ren b vs st o K := by
  have hk' := hk
  simp only [vop, ho, vnil] at hk'
  split at hk'
  case h_2 => exact hk'.elim
  rename_i n r k hc
  rw [chk_iff] at hk'
  obtain ⟨hl, hk'⟩ := hk'
  have hr := vo_rel h x
  rw [hc] at hr
  obtain ⟨ren', he, hs⟩ : ∃ r', ev st x = .ptr (f n) r' k ∧ (st.o (f n)).isSome = true := by
    simp only [relA] at hr
    cases hh : hget vs.h n with
    | free => rw [hh] at hl; simp [live] at hl
    | gone => rw [hh] at hl; simp [live] at hl
    | box cells =>
      rw [hh] at hr
      obtain ⟨_, es, h2, _⟩ := relS.box h hh
      exact ⟨_, hr.2, by rw [h2]; rfl⟩
    | arr T rows frz =>
      cases frz with
      | true => rw [hh] at hl; simp [live] at hl
      | false =>
        rw [hh] at hr
        obtain ⟨_, h2⟩ := relS.arr h hh
        exact ⟨_, hr.2.2 rfl, by rw [h2]; rfl⟩
  refine res_read h (a := .a (.ptr n r k)) hk' (fun K' hk => by simp only [vop, ho, vnil, hc]; rw [chk_iff]; exact ⟨hl, hk⟩) hr (fun KE hk => ?_)
  simp only [EWop, ho, he] at hk ⊢
  exact ⟨hs, hk⟩

theorem vop_extract (h : Rel nt f vs st) {x : Operand} {i : Nat} (ho : o.op = .extract x i) (hk : vop ven b vs.h vs.t o K) : OpRes nt ven ren b vs st o K := by
  have hk' := hk
  simp only [vop, ho] at hk'
  unfold loadT at hk'
  split at hk'
  case h_2 => exact hk'.elim
  rename_i a ha
  simp only [vext, chk_iff, Bool.not_eq_true'] at hk'
  obtain ⟨hf, hk'⟩ := hk'
  obtain ⟨es, e, hev, he, hr⟩ : ∃ es e, ev st x = .tup es ∧ es[i]? = some e ∧ relT vs.h f a e := by
    unfold vopTup at ha
    split at ha
    · rename_i j
      split at ha
      · rename_i xs hl
        obtain ⟨e, he, es, rfl, hall⟩ := h.t j _ hl
        obtain ⟨e', h1, h2⟩ := hall.get ha
        exact ⟨es, e', by simp [ev, he], h1, h2⟩
      · simp at ha
    · simp at ha
  refine res_read h (a := .a a) hk' (fun K' hk => by simp only [vop, ho, ha, loadT, vext, chk_iff, Bool.not_eq_true']; exact ⟨hf, hk⟩) (hr hf) (fun KE hk => ?_)
  simp only [EWop, ho, hev]
  exact ⟨e, he, hk⟩

theorem vop_unop (h : Rel nt f vs st) {op : UnOp} {t : TypeId} {x : Operand} (ho : o.op = .unOp op t x) (hk : vop ven b vs.h vs.t o K) : OpRes nt ven ren b vs st o K := by
  have hk' := hk
  simp only [vop, ho] at hk'
  have hr := vo_rel h x
  unfold vun at hk'
  split at hk'
  · rename_i bb hc
    rw [hc] at hr
    obtain ⟨_, he⟩ := hr
    refine res_read h (a := .a _) hk' (fun K' hk => by simp only [vop, ho, hc, vun]; exact hk) ⟨rfl, rfl⟩ (fun KE hk => ?_)
    simp only [EWop, ho, punop, he, vE] at hk ⊢
    exact hk
  · rename_i k n hc
    rw [hc] at hr
    obtain ⟨_, he⟩ := hr
    refine res_read h (a := .a _) hk' (fun K' hk => by simp only [vop, ho, hc, vun]; exact hk) ⟨rfl, rfl⟩ (fun KE hk => ?_)
    simp only [EWop, ho, punop, he, vE] at hk ⊢
    exact hk
  · exact hk'.elim
end Go.RX

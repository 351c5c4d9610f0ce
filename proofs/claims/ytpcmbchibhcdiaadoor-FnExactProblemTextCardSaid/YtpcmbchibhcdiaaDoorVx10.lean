/- VX, part 10: operations that read memory, or change it. -/
import Derived.Test.YtpcmbchibhcdiaaDoorVx9
namespace Go.RX
open Go

variable {nt : Nat} {f : Nat → Nat} {vs : VSt} {st : St} {ven : VEn} {ren : En} {b : Nat} {o : Oper} {K : TV → Ups → Prop}

theorem hget_frz1 {h : VH} {a : TA} {n : Nat} {cells : List TA} (hs : hget h n = .box cells) : hget (hup h (frz1 h a)) n = .box cells := by
  cases a with
  | own m sg =>
    simp only [frz1]
    split
    · rename_i T rows hm
      simp only [hup]
      have hne : m ≠ n := fun he => by subst he; rw [hm] at hs; simp at hs
      rw [hget_ne _ _ hne]; exact hs
    · exact hs
  | _ => exact hs
theorem hget_frzL : ∀ {as : List TA} {h : VH} {n : Nat} {cells : List TA}, hget h n = .box cells → hget (hup h (frzL h as)) n = .box cells
  | [], _, _, _, hs => hs
  | a :: as, h, n, cells, hs => by
    simp only [frzL, hup_append]
    exact hget_frzL (hget_frz1 hs)

theorem rowTy_isSt {ti : TI} {t : TypeId} {T : Ty} (h : rowTy ti t T = true) : isSt ti t = some (!T.atom) := (rowTy_ok h).2.2

/-- what a load yields -/
theorem vload_ext (H : VOk ven ren) (h : Rel nt f vs st) {tt : TypeId} {x : Operand} {K : TA → Ups → Prop} (hk : vload ven.ty ven.oth vs.h tt (vo vs.t x) K) :
    ∃ a us, K a us ∧ (∀ K' : TA → Ups → Prop, K' a us → vload ven.ty ven.oth vs.h tt (vo vs.t x) K') ∧ UpsOk vs.h b us ∧ Rel nt f (vs.up us) (frzLoad ren.ti tt st (ev st x)) ∧
      ∃ e, relA (hup vs.h us) f a e ∧ ∀ KE : EV → Prop, KE e → pload ren.ti (frzLoad ren.ti tt st (ev st x)) tt (ev (frzLoad ren.ti tt st (ev st x)) x) KE := by
  have hx := vo_rel h x
  unfold vload at hk
  split at hk
  · rename_i n row fld hxv
    rw [hxv] at hx
    simp only [relA] at hx
    split at hk
    · -- a box
      rename_i cells hs
      rw [hs] at hx
      obtain ⟨hrow, hxe⟩ := hx
      obtain ⟨_, es, hob, hall⟩ := relS.box h hs
      have scal : isSt ren.ti tt = some false → ∀ a, cells[fld]? = some a → K a [] → (∀ K' : TA → Ups → Prop, K' a [] → vload ven.ty ven.oth vs.h tt (vo vs.t x) K') →
          ∃ a us, K a us ∧ (∀ K' : TA → Ups → Prop, K' a us → vload ven.ty ven.oth vs.h tt (vo vs.t x) K') ∧ UpsOk vs.h b us ∧ Rel nt f (vs.up us) (frzLoad ren.ti tt st (ev st x)) ∧
            ∃ e, relA (hup vs.h us) f a e ∧ ∀ KE : EV → Prop, KE e → pload ren.ti (frzLoad ren.ti tt st (ev st x)) tt (ev (frzLoad ren.ti tt st (ev st x)) x) KE := by
        intro hst a ha hK hext
        obtain ⟨e, he, hr⟩ := hall.get ha
        have e1 : frzLoad ren.ti tt st (ev st x) = st := by simp [frzLoad, hst]
        refine ⟨a, [], hK, hext, UpsOk.nil, by rw [e1]; exact h, e, hr, fun KE hKE => ?_⟩
        rw [e1, hxe]
        simp only [pload, hob, hst]
        exact ⟨trivial, e, he, hKE⟩
      split at hk
      · rename_i g r hty
        rw [chk_iff] at hk
        obtain ⟨hsol, hk⟩ := hk
        have hrow2 := H.ty _ _ hty
        obtain ⟨hok, hw, hst⟩ := rowTy_ok hrow2
        simp only [Ty.atom, Bool.not_false] at hst
        have e1 : frzLoad ren.ti tt st (ev st x) = frzCells st es := by simp [frzLoad, hst, hxe, frzBox, hob]
        have h1 : Rel nt f (vs.up (frzL vs.h cells)) (frzCells st es) := h.frzL (solidL_relF hsol hall)
        have hs1 := hget_frzL (as := cells) hs
        obtain ⟨_, es1, hob1, hall1⟩ := relS.box h1 hs1
        obtain ⟨v, hv, hext, hle, hcd⟩ := packT_rel hok (hall1.drop fld) hk
        refine ⟨_, _, hv, fun K' hk => ?_, UpsOk.frzL, by rw [e1]; exact h1, .agg (Ty.cells (.cons g r) v), ⟨hok, rfl⟩, fun KE hKE => ?_⟩
        · unfold vload; simp only [hxv, hs, hty]; rw [chk_iff]; exact ⟨hsol, hext _ hk⟩
        · have hx1 := vo_rel h1 x
          rw [show vo (vs.up (frzL vs.h cells)).t x = vo vs.t x from rfl, hxv] at hx1
          simp only [relA] at hx1
          rw [show (vs.up (frzL vs.h cells)).h = hup vs.h (frzL vs.h cells) from rfl, hs1] at hx1
          rw [e1, hx1.2]
          simp only [pload, hob1, hst]
          rw [← hw]
          refine ⟨trivial, ?_, _, hcd, hKE⟩
          rw [List.length_drop] at hle
          have : 0 < (Ty.cons g r).w := by simp [Ty.w]
          omega
      · rename_i T hty hnc
        have hrow2 := H.ty _ _ hnc
        have hst := rowTy_isSt hrow2
        have hat : T.atom = true := by cases T <;> first | rfl | exact absurd rfl (hty _ _)
        rw [hat] at hst
        simp only [loadT] at hk
        split at hk
        · rename_i a ha
          refine scal hst a ha hk (fun K' hk => ?_)
          unfold vload; simp only [hxv, hs, hnc, ha, loadT]
          cases T <;> first | exact hk | exact absurd rfl (hty _ _)
        · exact hk.elim
      · rename_i hty
        rw [chk_iff] at hk
        obtain ⟨ho, hk⟩ := hk
        have hst : isSt ren.ti tt = some false := by simp [isSt, H.oth _ ho]
        simp only [loadT] at hk
        split at hk
        · rename_i a ha
          refine scal hst a ha hk (fun K' hk => ?_)
          unfold vload; simp only [hxv, hs, hty, ha, loadT]; rw [chk_iff]; exact ⟨ho, hk⟩
        · exact hk.elim
    · -- an array
      rename_i T rows hs
      rw [hs] at hx
      obtain ⟨hrow0, hrow1, hxe⟩ := hx
      replace hxe := hxe rfl
      obtain ⟨_, hob⟩ := relS.arr h hs
      have hokT := relS.ok h hs
      have hlt : row.toNat < rows.length := by omega
      have hget : (rows.map T.cells)[row.toNat]? = some (T.cells (rd T rows row)) := by rw [List.getElem?_map, rd_get hlt]; rfl
      have e1 : frzLoad ren.ti tt st (ev st x) = st := by
        unfold frzLoad
        split
        · rw [hxe]; simp [frzBox, hob]
        · rfl
      split at hk
      · rename_i g r hty
        rw [chk_iff] at hk
        obtain ⟨hf, hk⟩ := hk
        have hf' : fld = 0 := of_decide_eq_true hf
        subst hf'
        obtain ⟨he, hk, hext⟩ := castD_ext hk
        subst he
        obtain ⟨hok, hw, hst⟩ := rowTy_ok (H.ty _ _ hty)
        simp only [Ty.atom, Bool.not_false] at hst
        refine ⟨_, [], hk, fun K' hk => ?_, UpsOk.nil, by rw [e1]; exact h, .agg (Ty.cells (.cons g r) (rd _ rows row)), ⟨hok, rfl⟩, fun KE hKE => ?_⟩
        · unfold vload; simp only [hxv, hs, hty]; rw [chk_iff]; exact ⟨hf, hext _ hk⟩
        · rw [e1, hxe]
          simp only [pload, hob, hst]
          refine ⟨_, hget, by rw [Ty.cells_len hok, hw]; omega, ?_⟩
          rw [List.drop_zero, ← hw, List.take_of_length_le (by rw [Ty.cells_len hok]; exact Nat.le_refl _)]
          exact hKE
      · rename_i T' hty hnc
        have hst := rowTy_isSt (H.ty _ _ hnc)
        have hat : T'.atom = true := by cases T' <;> first | rfl | exact absurd rfl (hty _ _)
        rw [hat] at hst
        simp only [loadT] at hk
        split at hk
        · rename_i a ha
          obtain ⟨d, h1, h2⟩ := fldV_rel (f := f) (h := vs.h) hokT ha
          refine ⟨a, [], hk, fun K' hk => ?_, UpsOk.nil, by rw [e1]; exact h, .d d, h2, fun KE hKE => ?_⟩
          · unfold vload; simp only [hxv, hs, hnc, ha, loadT]
            cases T' <;> first | exact hk | exact absurd rfl (hty _ _)
          · rw [e1, hxe]
            simp only [pload, hob, hst]
            exact ⟨_, hget, d, h1, hKE⟩
        · exact hk.elim
      · exact hk.elim
    · exact hk.elim
  · -- a row of data
    rename_i T v fld hxv
    rw [hxv] at hx
    obtain ⟨hokT, hxe⟩ := hx
    have e1 : frzLoad ren.ti tt st (ev st x) = st := by
      unfold frzLoad
      split
      · rw [hxe]; simp [frzBox]
      · rfl
    split at hk
    · rename_i g r hty
      rw [chk_iff] at hk
      obtain ⟨hf, hk⟩ := hk
      have hf' : fld = 0 := of_decide_eq_true hf
      subst hf'
      obtain ⟨he, hk, hext⟩ := castD_ext hk
      subst he
      obtain ⟨hok, hw, hst⟩ := rowTy_ok (H.ty _ _ hty)
      simp only [Ty.atom, Bool.not_false] at hst
      refine ⟨_, [], hk, fun K' hk => ?_, UpsOk.nil, by rw [e1]; exact h, .agg (Ty.cells (.cons g r) v), ⟨hok, rfl⟩, fun KE hKE => ?_⟩
      · unfold vload; simp only [hxv, hty]; rw [chk_iff]; exact ⟨hf, hext _ hk⟩
      · rw [e1, hxe]
        simp only [pload, hst, List.drop_zero]
        refine ⟨by rw [Ty.cells_len hok, hw]; exact Nat.le_refl _, ?_⟩
        rw [← hw, List.take_of_length_le (by rw [Ty.cells_len hok]; exact Nat.le_refl _)]
        exact hKE
    · rename_i T' hty hnc
      have hst := rowTy_isSt (H.ty _ _ hnc)
      have hat : T'.atom = true := by cases T' <;> first | rfl | exact absurd rfl (hty _ _)
      rw [hat] at hst
      simp only [loadT] at hk
      split at hk
      · rename_i a ha
        obtain ⟨d, h1, h2⟩ := fldV_rel (f := f) (h := vs.h) hokT ha
        refine ⟨a, [], hk, fun K' hk => ?_, UpsOk.nil, by rw [e1]; exact h, .d d, h2, fun KE hKE => ?_⟩
        · unfold vload; simp only [hxv, hnc, ha, loadT]
          cases T' <;> first | exact hk | exact absurd rfl (hty _ _)
        · rw [e1, hxe]
          simp only [pload, hst]
          exact ⟨d, by rw [List.getElem?_drop]; exact h1, hKE⟩
      · exact hk.elim
    · exact hk.elim
  · exact hk.elim

theorem vop_load (H : VOk ven ren) (h : Rel nt f vs st) {tt : TypeId} {x : Operand} (ho : o.op = .load tt x) (hk : vop ven b vs.h vs.t o K) : OpRes nt ven ren b vs st o K := by
  have hk' := hk
  simp only [vop, ho] at hk'
  obtain ⟨a, us, h1, h2, h3, h4, e, h5, h6⟩ := vload_ext (b := b) H h hk'
  refine ⟨.a a, us, h1, fun K' hk => by simp only [vop, ho]; exact h2 _ hk, h3, fun KE hKE => ?_⟩
  simp only [EWop, ho]
  exact h6 _ (hKE _ f e h4 h5)

/-! ### new objects -/
theorem hget_b (hb : ∀ n, b ≤ n → n < b + 8 → hget vs.h n = .free) : hget vs.h b = .free := hb b (Nat.le_refl _) (by omega)

theorem vop_alloc (H : VOk ven ren) (h : Rel nt f vs st) (hb : ∀ n, b ≤ n → n < b + 8 → hget vs.h n = .free) (h4 : 4 ≤ b) {t : TypeId} (ho : o.op = .alloc t) (hk : vop ven b vs.h vs.t o K) : OpRes nt ven ren b vs st o K := by
  have hk' := hk
  simp only [vop, ho] at hk'
  split at hk'
  case h_2 => exact hk'.elim
  rename_i T hty
  obtain ⟨es, h1, h2, _⟩ := zeroBox_rel (f := f) (h := vs.h) (H.ty _ _ hty)
  refine ⟨_, _, hk', fun K' hk => by simp only [vop, ho, hty]; exact hk, UpsOk.one (.inr ⟨Nat.le_refl _, by omega⟩), fun KE hKE => ?_⟩
  simp only [EWop, ho]
  refine ⟨es, h1, ?_⟩
  have hR := h.new (ob := .box es) (hget_b hb) h4 (s := .box (zeroTAs T)) rfl ⟨es, rfl, h2⟩
  refine hKE (st.add (.box es)) _ (.ptr st.nx 0 0) hR ?_
  simp only [relV, relA, hup, hget_same]
  simp

theorem boxTAs_rel (h : Rel nt f vs st) {a : TA} {e : EV} {cs : List TA} (hr : relA vs.h f a e) (hc : boxTAs vs.h a = some cs) : ∃ es, boxCells st e = some es ∧ All2 (relA vs.h f) cs es := by
  unfold boxTAs at hc
  split at hc
  · rename_i T x
    obtain ⟨hok, rfl⟩ := hr
    simp only [Option.some.injEq] at hc
    subst hc
    exact boxV_rel hok x st
  · simp only [Option.some.injEq] at hc; subst hc
    obtain ⟨hok, rfl⟩ := hr
    exact ⟨_, rfl, ⟨hok, rfl⟩, trivial⟩
  · rename_i n sg
    split at hc
    case isFalse => simp at hc
    rename_i hA
    simp only [Option.some.injEq] at hc; subst hc
    have hr' := hr
    simp only [relA] at hr
    cases hh : hget vs.h n with
    | free => rw [hh] at hr; exact hr.elim
    | gone => rw [hh] at hA; simp [isArr] at hA
    | box _ => rw [hh] at hr; exact hr.elim
    | arr T rows fz =>
      rw [hh] at hr
      cases fz with
      | true => rw [hr.2.1 rfl] at hr' ⊢; exact ⟨_, rfl, hr', trivial⟩
      | false =>
        obtain ⟨_, hob⟩ := relS.arr h hh
        rw [hr.2.2 rfl] at hr' ⊢
        exact ⟨[.own (f n) (segOff sg) (segLen rows sg)], by simp [boxCells, hob], hr', trivial⟩
  · rename_i n r k
    split at hc
    case isFalse => simp at hc
    rename_i hA
    simp only [Option.some.injEq] at hc; subst hc
    have hr' := hr
    simp only [relA] at hr
    cases hh : hget vs.h n with
    | free => rw [hh] at hr; exact hr.elim
    | gone => rw [hh] at hA; simp [live] at hA
    | box _ =>
      rw [hh] at hr
      obtain ⟨_, es, hob, _⟩ := relS.box h hh
      rw [hr.2] at hr' ⊢
      exact ⟨[.ptr (f n) 0 k], by simp [boxCells, hob], hr', trivial⟩
    | arr T rows fz =>
      rw [hh] at hr
      cases fz with
      | true => rw [hh] at hA; simp [live] at hA
      | false =>
        obtain ⟨_, hob⟩ := relS.arr h hh
        rw [hr.2.2 rfl] at hr' ⊢
        exact ⟨[.ptr (f n) r.toNat k], by simp [boxCells, hob], hr', trivial⟩
  · rename_i T x k
    simp only [Option.some.injEq] at hc; subst hc
    obtain ⟨hok, rfl⟩ := hr
    exact ⟨_, rfl, ⟨hok, rfl⟩, trivial⟩
  · simp only [Option.some.injEq] at hc; subst hc
    simp only [relA] at hr; subst hr
    exact ⟨_, rfl, rfl, trivial⟩
  · simp at hc

theorem vop_box (H : VOk ven ren) (h : Rel nt f vs st) (hb : ∀ n, b ≤ n → n < b + 8 → hget vs.h n = .free) (h4 : 4 ≤ b) {t : TypeId} {x : Operand} (ho : o.op = .box t x) (hk : vop ven b vs.h vs.t o K) : OpRes nt ven ren b vs st o K := by
  have hk' := hk
  simp only [vop, ho] at hk'
  split at hk'
  case h_2 => exact hk'.elim
  rename_i cs hcs
  obtain ⟨es, h1, h2⟩ := boxTAs_rel h (voT_rel H h t x) hcs
  refine ⟨_, _, hk', fun K' hk => by simp only [vop, ho, hcs]; exact hk, UpsOk.one (.inr ⟨Nat.le_refl _, by omega⟩), fun KE hKE => ?_⟩
  simp only [EWop, ho]
  refine ⟨es, h1, ?_⟩
  have hR := h.new (ob := .box es) (hget_b hb) h4 (s := .box cs) rfl ⟨es, rfl, h2⟩
  refine hKE (st.add (.box es)) _ (.ptr st.nx 0 0) hR ?_
  simp only [relV, relA, hup, hget_same]
  simp

theorem vop_make (H : VOk ven ren) (h : Rel nt f vs st) (hb : ∀ n, b ≤ n → n < b + 8 → hget vs.h n = .free) (h4 : 4 ≤ b) {t : TypeId} {x y : Operand} (ho : o.op = .makeSlice t x y) (hk : vop ven b vs.h vs.t o K) : OpRes nt ven ren b vs st o K := by
  have hk' := hk
  simp only [vop, ho] at hk'
  have hx := vo_rel h x
  have hy := vo_rel h y
  unfold vmake at hk'
  split at hk'
  case h_2 => exact hk'.elim
  rename_i r k1 l k2 c hty hxv hyv
  rw [hxv] at hx
  rw [hyv] at hy
  obtain ⟨hg1, hk'⟩ := grd_iff.mp hk'
  obtain ⟨hg2, hk'⟩ := grd_iff.mp hk'
  have hlc : (show Int from l) = c := of_decide_eq_true hg1
  have hl2 := hg2
  simp only [mkOk_eq, Bool.and_eq_true, decide_eq_true_eq] at hl2
  have hrow := H.ty _ _ hty
  obtain ⟨e0, hti, hre⟩ := rowTy_sl hrow
  obtain ⟨hok, hw, _⟩ := rowTy_ok hre
  obtain ⟨es, h1, _, h3⟩ := zeroBox_rel (f := f) (h := vs.h) hre
  refine ⟨_, _, hk', fun K' hk => by simp only [vop, ho, vmake, hty, hxv, hyv]; exact grd_iff.mpr ⟨hg1, grd_iff.mpr ⟨hg2, hk⟩⟩, UpsOk.one (.inr ⟨Nat.le_refl _, by omega⟩), fun KE hKE => ?_⟩
  simp only [EWop, ho, pmake, hx.2, hy.2, vE, hti]
  refine ⟨hlc, of_decide_eq_true (by have := hg2; rw [mkOk_eq] at this; exact (Bool.and_eq_true _ _ ▸ this).1), ?_, es, h1, r.cells r.dfl, h3, ?_⟩
  · have := hl2.2
    exact this
  have hR := h.new (ob := .arr r.w ((rep l r.dfl).map r.cells)) (hget_b hb) h4 (s := .arr r (rep l r.dfl) false) rfl ⟨hok, rfl⟩
  have e1 : (rep l r.dfl).map r.cells = List.replicate (Int.toNat l) (r.cells r.dfl) := by simp [rep]
  rw [e1, hw] at hR
  refine hKE _ _ (.own st.nx 0 (Int.toNat l)) hR ?_
  simp only [relV, relA, hup, hget_same]
  simp [segIn, segOff, segLen, rep]
end Go.RX

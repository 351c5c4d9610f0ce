/- VX, part 9: operations, on: places, reads, writes, new objects. -/
import Derived.Test.YtpcmbchibhcdiaaDoorVx8
namespace Go.RX
open Go

variable {nt : Nat} {f : Nat → Nat} {vs : VSt} {st : St} {ven : VEn} {ren : En} {b : Nat} {o : Oper} {K : TV → Ups → Prop}

theorem segLenI_eq {α : Type} {rows : List α} {sg : Option (Int × Int)} (h : segIn rows sg) : segLenI rows sg = (segLen rows sg : Int) := by
  cases sg with
  | none => rfl
  | some p => obtain ⟨lo, ln⟩ := p; simp only [segIn] at h; simp only [segLenI, segLen]; omega

theorem rowTy_cons {ti : TI} {t : TypeId} {u r : Ty} (h : rowTy ti t (.cons u r) = true) : ∃ fts, ti t = some (.st fts) ∧ fB ti (.cons u r) fts = true := by
  unfold rowTy at h
  split at h
  · rename_i fs h1
    simp only [Bool.and_eq_true] at h
    exact ⟨fs, h1, h.2⟩
  · simp [fB] at h
  · simp at h

theorem vbnd_ext {x : Option Operand} {d : Int} {K : Int → Prop} (h : Rel nt f vs st) (hk : vbnd vs.t x d K) :
    ∃ i, K i ∧ (∀ K' : Int → Prop, K' i → vbnd vs.t x d K') ∧ ∀ KE : Int → Prop, KE i → pbound st x d KE := by
  unfold vbnd at hk
  split at hk
  · exact ⟨d, hk, fun K' hk => hk, fun KE hk => hk⟩
  · rename_i x
    split at hk
    · rename_i k i hx
      have hr := vo_rel h x
      rw [hx] at hr
      refine ⟨i, hk, fun K' hk => by simp only [vbnd, hx]; exact hk, fun KE hk => ?_⟩
      simp only [pbound, hr.2, vE]
      exact hk
    · exact hk.elim

theorem inn_spec {lo hi n : Int} (h : inn lo hi n = true) : 0 ≤ lo ∧ lo ≤ hi ∧ hi ≤ n := by
  simp only [inn_eq, Bool.and_eq_true, decide_eq_true_eq] at h
  exact h
theorem elTy_spec {o : Option Ty} {r : Ty} (h : elTy o = some r) : o = some (.sl r) := by
  unfold elTy at h
  split at h
  · simp at h; rw [h]
  · simp at h
theorem seg_slice {α β : Type} (g : α → β) (xs : List α) {lo hi : Int} (h0 : 0 ≤ lo) (h1 : lo ≤ hi) : (((xs.map g).take hi.toNat).drop lo.toNat) = (seg xs lo (zsub hi lo)).map g := by
  unfold seg zsub
  rw [List.map_take, List.map_drop, List.drop_take]
  congr 1
  omega

theorem vslice_ext (H : VOk ven ren) (h : Rel nt f vs st) {tt : TypeId} {x : Operand} {lo hi : Option Operand} {K : TA → Prop} (hk : vslice ven.ty vs.h vs.t tt (vo vs.t x) lo hi K) :
    ∃ a e, K a ∧ (∀ K' : TA → Prop, K' a → vslice ven.ty vs.h vs.t tt (vo vs.t x) lo hi K') ∧ relA vs.h f a e ∧ slOk ren.ti tt (ev st x) ∧ ∀ KE : EV → Prop, KE e → pslice ren.ti tt st (ev st x) lo hi KE := by
  have hx := vo_rel h x
  unfold vslice at hk
  split at hk
  · rename_i s hxv
    rw [chk_iff] at hk
    obtain ⟨hc, hk⟩ := hk
    have hti := rowTy_str (H.ty _ _ (of_decide_eq_true hc))
    rw [hxv] at hx
    obtain ⟨_, hxe⟩ := hx
    obtain ⟨h1, hk, e1, p1⟩ := vbnd_ext h hk
    obtain ⟨l1, hk, e2, p2⟩ := vbnd_ext h hk
    obtain ⟨hg, hk⟩ := grd_iff.mp hk
    have hg' := inn_spec hg
    refine ⟨_, .d (.im (.string (ssub s l1 h1))), hk, fun K' hk => ?_, ⟨rfl, rfl⟩, by rw [hxe]; simp [slOk, vE, hti], fun KE hK => ?_⟩
    · unfold vslice; simp only [hxv]; rw [chk_iff]
      exact ⟨hc, e1 _ (e2 _ (grd_iff.mpr ⟨hg, hk⟩))⟩
    · rw [hxe]
      simp only [vE, pslice]
      exact p1 _ (p2 _ ⟨hg'.1, hg'.2.1, hg'.2.2, hK⟩)
  · rename_i r xs hxv
    rw [chk_iff] at hk
    obtain ⟨hc, hk⟩ := hk
    have hty := H.ty _ _ (elTy_spec (of_decide_eq_true hc))
    obtain ⟨e0, hti, _⟩ := rowTy_sl hty
    have hel := rowTy_elem hty
    rw [hxv] at hx
    obtain ⟨hok, hxe⟩ := hx
    obtain ⟨h1, hk, e1, p1⟩ := vbnd_ext h hk
    obtain ⟨l1, hk, e2, p2⟩ := vbnd_ext h hk
    obtain ⟨hg, hk⟩ := grd_iff.mp hk
    have hg' := inn_spec hg
    refine ⟨_, _, hk, fun K' hk => ?_, ⟨hok, rfl⟩, by rw [hxe]; simp [slOk, vE, hti], fun KE hK => ?_⟩
    · unfold vslice; simp only [hxv]; rw [chk_iff]
      exact ⟨hc, e1 _ (e2 _ (grd_iff.mpr ⟨hg, hk⟩))⟩
    · rw [hxe]
      simp only [vE, pslice]
      have hlen : ((List.map (fun x => r.cells x) xs).length : Int) = llen xs := by simp [llen]
      rw [hlen]
      refine p1 _ (p2 _ ⟨hel.symm, hg'.1, hg'.2.1, hg'.2.2, ?_⟩)
      rw [seg_slice _ _ hg'.1 hg'.2.1]
      exact hK
  · rename_i n sg hxv
    split at hk
    case h_2 => exact hk.elim
    rename_i T rows fz hs
    rw [chk_iff] at hk
    obtain ⟨hc, hk⟩ := hk
    have hty := H.ty _ _ (elTy_spec (of_decide_eq_true hc))
    obtain ⟨e0, hti, _⟩ := rowTy_sl hty
    have hel := rowTy_elem hty
    rw [hxv] at hx
    simp only [relA] at hx
    rw [hs] at hx
    obtain ⟨hin, h2, h3⟩ := hx
    obtain ⟨h1, hk, e1, p1⟩ := vbnd_ext h hk
    obtain ⟨l1, hk, e2, p2⟩ := vbnd_ext h hk
    obtain ⟨hg, hk⟩ := grd_iff.mp hk
    have hg' := inn_spec hg
    have hsl := segLenI_eq hin
    have hin2 : segIn rows (some (segAdd l1 (zsub h1 l1) sg)) := by
      obtain ⟨a, b, c⟩ := hg'
      rw [hsl] at c
      cases sg with
      | none => simp only [segLen] at c; simp only [segAdd, segIn, zsub]; omega
      | some p => obtain ⟨lo', ln'⟩ := p; simp only [segLen] at c; simp only [segIn] at hin; simp only [segAdd, segIn, zsub, zadd]; omega
    have hoff : segOff (some (segAdd l1 (zsub h1 l1) sg)) = segOff sg + l1.toNat := by
      obtain ⟨a, b, c⟩ := hg'
      cases sg with
      | none => simp [segAdd, segOff]
      | some p => obtain ⟨lo', ln'⟩ := p; simp only [segIn] at hin; simp only [segAdd, segOff, zadd]; omega
    have hln : segLen rows (some (segAdd l1 (zsub h1 l1) sg)) = h1.toNat - l1.toNat := by
      obtain ⟨a, b, c⟩ := hg'
      cases sg with
      | none => simp only [segAdd, segLen, zsub]; omega
      | some p => simp only [segAdd, segLen, zsub]; omega
    have hle : h1.toNat ≤ segLen rows sg := by have := hg'.2.2; rw [hsl] at this; omega
    have hext : ∀ K' : TA → Prop, K' (.own n (some (segAdd l1 (zsub h1 l1) sg))) → vslice ven.ty vs.h vs.t tt (vo vs.t x) lo hi K' := fun K' hk => by
      unfold vslice; simp only [hxv, hs]; rw [chk_iff]
      exact ⟨hc, e1 _ (e2 _ (grd_iff.mpr ⟨hg, hk⟩))⟩
    cases fz with
    | true =>
      refine ⟨_, .d (.sl T.w ((segOf rows (some (segAdd l1 (zsub h1 l1) sg))).map T.cells)), hk, hext, ?_, by rw [h2 rfl]; simp [slOk, hti], fun KE hK => ?_⟩
      · simp only [relA]; rw [hs]; exact ⟨hin2, fun _ => rfl, fun h => by simp at h⟩
      · rw [h2 rfl]
        simp only [pslice]
        have hlen : (((segOf rows sg).map T.cells).length : Int) = segLenI rows sg := by rw [List.length_map, segOf_len hin, hsl]
        rw [hlen]
        refine p1 _ (p2 _ ⟨hel.symm, hg'.1, hg'.2.1, hg'.2.2, ?_⟩)
        have : ((((segOf rows sg).map T.cells).take h1.toNat).drop l1.toNat) = (segOf rows (some (segAdd l1 (zsub h1 l1) sg))).map T.cells := by
          rw [segOf_eq rows sg, segOf_eq rows (some _), hoff, hln]
          rw [← List.map_take, ← List.map_drop, List.take_take, Nat.min_eq_left hle, List.drop_take, List.drop_drop]
        rw [this]; exact hK
    | false =>
      refine ⟨_, .own (f n) (segOff sg + l1.toNat) (h1.toNat - l1.toNat), hk, hext, ?_, by rw [h3 rfl]; simp [slOk, hti], fun KE hK => ?_⟩
      · simp only [relA]; rw [hs]; exact ⟨hin2, fun h => by simp at h, fun _ => by rw [hoff, hln]⟩
      · rw [h3 rfl]
        simp only [pslice]
        obtain ⟨_, hob⟩ := relS.arr h hs
        rw [hob]
        simp only
        rw [← hsl]
        exact p1 _ (p2 _ ⟨hel.symm, hg'.1, hg'.2.1, hg'.2.2, hK⟩)
  · exact hk.elim

theorem vop_slice (H : VOk ven ren) (h : Rel nt f vs st) {tt : TypeId} {x : Operand} {lo hi : Option Operand} (ho : o.op = .slice tt x lo hi none) (hk : vop ven b vs.h vs.t o K) : OpRes nt ven ren b vs st o K := by
  have hk' := hk
  simp only [vop, ho] at hk'
  obtain ⟨a, e, h1, h2, h3, h4, h5⟩ := vslice_ext H h hk'
  exact res_read h (a := .a a) h1 (fun K' hk => by simp only [vop, ho]; exact h2 _ hk) h3 (fun KE hk => by simp only [EWop, ho]; exact ⟨h4, h5 _ hk⟩)

theorem vop_fieldAddr (H : VOk ven ren) (h : Rel nt f vs st) {s : TypeId} {x : Operand} {k : Nat} (ho : o.op = .fieldAddr s x k) (hk : vop ven b vs.h vs.t o K) : OpRes nt ven ren b vs st o K := by
  have hk' := hk
  simp only [vop, ho] at hk'
  have hx := vo_rel h x
  unfold vfieldAddr at hk'
  split at hk'
  case h_2 => exact hk'.elim
  rename_i u r hty
  rw [chk_iff] at hk'
  obtain ⟨hc, hk'⟩ := hk'
  obtain ⟨fts, hti, hfb⟩ := rowTy_cons (H.ty _ _ hty)
  have hlt : k < fts.length := by rw [← (fB_ok hfb).2]; exact of_decide_eq_true hc
  split at hk'
  · rename_i n row fl hxv
    rw [chk_iff] at hk'
    obtain ⟨hl, hk'⟩ := hk'
    rw [hxv] at hx
    have hext : ∀ K' : TV → Ups → Prop, K' (.a (.ptr n row (fl + k))) [] → vop ven b vs.h vs.t o K' := fun K' hk => by
      simp only [vop, ho, vfieldAddr, hty, hxv]; rw [chk_iff]; exact ⟨hc, by rw [chk_iff]; exact ⟨hl, hk⟩⟩
    simp only [relA] at hx
    cases hh : hget vs.h n with
    | free => rw [hh] at hl; simp [live] at hl
    | gone => rw [hh] at hl; simp [live] at hl
    | box cells =>
      rw [hh] at hx
      obtain ⟨_, es, h2, _⟩ := relS.box h hh
      refine res_read h (a := .a _) hk' hext (e := .ptr (f n) 0 (fl + k)) ?_ (fun KE hK => ?_)
      · simp only [relV, relA]; rw [hh]; exact ⟨hx.1, by first | rfl | trivial⟩
      · simp only [EWop, ho, pfieldAddr, hti, hx.2]
        exact ⟨hlt, by rw [h2]; rfl, hK⟩
    | arr T rows fz =>
      cases fz with
      | true => rw [hh] at hl; simp [live] at hl
      | false =>
        rw [hh] at hx
        obtain ⟨_, h2⟩ := relS.arr h hh
        refine res_read h (a := .a _) hk' hext (e := .ptr (f n) row.toNat (fl + k)) ?_ (fun KE hK => ?_)
        · simp only [relV, relA]; rw [hh]; exact ⟨hx.1, hx.2.1, fun _ => by first | rfl | trivial⟩
        · simp only [EWop, ho, pfieldAddr, hti, hx.2.2 rfl]
          exact ⟨hlt, by rw [h2]; rfl, hK⟩
  · rename_i T v j hxv
    rw [hxv] at hx
    obtain ⟨hok, hxe⟩ := hx
    refine res_read h (a := .a _) hk' (fun K' hk => by simp only [vop, ho, vfieldAddr, hty, hxv]; rw [chk_iff]; exact ⟨hc, hk⟩) (e := .rptr ((T.cells v).drop (j + k))) ⟨hok, rfl⟩ (fun KE hK => ?_)
    simp only [EWop, ho, pfieldAddr, hti, hxe, List.drop_drop]
    exact ⟨hlt, hK⟩
  · exact hk'.elim

theorem rd_get {T : Ty} {xs : List T.den} {i : Int} (h : i.toNat < xs.length) : xs[i.toNat]? = some (rd T xs i) := by
  unfold rd
  rw [List.getD_eq_getElem?_getD, List.getElem?_eq_getElem h]
  rfl

theorem vop_indexAddr (H : VOk ven ren) (h : Rel nt f vs st) {tt : TypeId} {x i : Operand} (ho : o.op = .indexAddr tt x i) (hk : vop ven b vs.h vs.t o K) : OpRes nt ven ren b vs st o K := by
  have hk' := hk
  simp only [vop, ho] at hk'
  have hx := vo_rel h x
  have hi := vo_rel h i
  unfold vindexAddr at hk'
  split at hk'
  case h_2 => exact hk'.elim
  rename_i ki j hiv
  rw [hiv] at hi
  obtain ⟨_, hie⟩ := hi
  split at hk'
  · rename_i T xs hxv
    rw [chk_iff] at hk'
    obtain ⟨hc, hk'⟩ := hk'
    have hty := H.ty _ _ (elTy_spec (of_decide_eq_true hc))
    obtain ⟨e0, hti, _⟩ := rowTy_sl hty
    have hel := rowTy_elem hty
    rw [hxv] at hx
    obtain ⟨hok, hxe⟩ := hx
    obtain ⟨hg, hk'⟩ := grd_iff.mp hk'
    have hg' := idx_toNat (m := xs.length) hg
    refine res_read h (a := .a _) hk' (fun K' hk => by simp only [vop, ho, vindexAddr, hxv, hiv]; rw [chk_iff]; exact ⟨hc, grd_iff.mpr ⟨hg, hk⟩⟩) (e := .rptr (T.cells (rd T xs j))) ⟨hok, rfl⟩ (fun KE hK => ?_)
    simp only [EWop, ho, hxe, hie, vE, pindexAddr]
    refine ⟨⟨e0, hti⟩, hel.symm, hg'.1, T.cells (rd T xs j), ?_, hK⟩
    rw [List.getElem?_map, rd_get hg'.2]
    rfl
  · rename_i n sg hxv
    split at hk'
    case h_2 => exact hk'.elim
    rename_i T rows fz hs
    rw [chk_iff] at hk'
    obtain ⟨hc, hk'⟩ := hk'
    have hty := H.ty _ _ (elTy_spec (of_decide_eq_true hc))
    obtain ⟨e0, hti, _⟩ := rowTy_sl hty
    have hel := rowTy_elem hty
    rw [hxv] at hx
    simp only [relA] at hx
    rw [hs] at hx
    obtain ⟨hin, h2, h3⟩ := hx
    obtain ⟨hg, hk'⟩ := grd_iff.mp hk'
    have hsl := segLenI_eq hin
    have hg' : 0 ≤ (show Int from j) ∧ Int.toNat j < segLen rows sg := by
      have hg2 : idx j (segLen rows sg : Int) = true := by rw [← hsl]; exact hg
      exact idx_toNat hg2
    cases fz with
    | true =>
      simp only [cond_true] at hk'
      refine res_read h (a := .a _) hk' (fun K' hk => by simp only [vop, ho, vindexAddr, hxv, hiv, hs]; rw [chk_iff]; exact ⟨hc, grd_iff.mpr ⟨hg, hk⟩⟩) (e := .rptr (T.cells (rd T (segOf rows sg) j))) ⟨relS.ok h hs, rfl⟩ (fun KE hK => ?_)
      simp only [EWop, ho, hie, vE, pindexAddr, h2 rfl]
      refine ⟨⟨e0, hti⟩, hel.symm, hg'.1, T.cells (rd T (segOf rows sg) j), ?_, hK⟩
      rw [List.getElem?_map, rd_get (by rw [segOf_len hin]; exact hg'.2)]
      rfl
    | false =>
      simp only [cond_false] at hk'
      obtain ⟨_, hob⟩ := relS.arr h hs
      have hrow : 0 ≤ segAt j sg ∧ segAt j sg < rows.length ∧ (segAt j sg).toNat = segOff sg + Int.toNat j := by
        obtain ⟨a, c⟩ := hg'
        cases sg with
        | none =>
          simp only [segLen] at c; simp only [segAt, segOff]
          refine ⟨a, ?_, by simp⟩
          have : (Int.toNat j : Int) = j := Int.toNat_of_nonneg a
          omega
        | some p =>
          obtain ⟨lo', ln'⟩ := p
          simp only [segLen] at c; simp only [segIn] at hin; simp only [segAt, segOff, zadd]
          have : (Int.toNat j : Int) = j := Int.toNat_of_nonneg a
          refine ⟨by omega, by omega, by omega⟩
      refine res_read h (a := .a _) hk' (fun K' hk => by simp only [vop, ho, vindexAddr, hxv, hiv, hs]; rw [chk_iff]; exact ⟨hc, grd_iff.mpr ⟨hg, hk⟩⟩) (e := .ptr (f n) (segOff sg + Int.toNat j) 0) ?_ (fun KE hK => ?_)
      · simp only [relV, relA]; rw [hs]; exact ⟨hrow.1, hrow.2.1, fun _ => by rw [hrow.2.2]⟩
      · simp only [EWop, ho, hie, vE, pindexAddr, h3 rfl, hob]
        refine ⟨⟨e0, hti⟩, hel.symm, hg'.1, ?_, hK⟩
        have : (Int.toNat j : Int) = j := Int.toNat_of_nonneg hg'.1
        have := hg'.2
        omega
  · exact hk'.elim
end Go.RX

/- VX, part 11: stores, literals, append, copy. -/
import Derived.Test.YtpcmbchibhcdiaaDoorVx10
namespace Go.RX
open Go

variable {nt : Nat} {f : Nat → Nat} {vs : VSt} {st : St} {ven : VEn} {ren : En} {b : Nat} {o : Oper} {K : TV → Ups → Prop}

theorem All2.set' {α β : Type} {R : α → β → Prop} {as as2 : List α} {bs bs2 : List β} (h1 : All2 R as bs) (h2 : All2 R as2 bs2) (k m : Nat) : All2 R (as.take k ++ as2 ++ as.drop m) (bs.take k ++ bs2 ++ bs.drop m) :=
  ((h1.take k).append h2).append (h1.drop m)

theorem cellsFit_rel (H : VOk ven ren) {t : TypeId} {n : Nat} (h : cellsFit (ven.ty t) (ven.oth t) n = true) : n = szT ren.ti t ∧ (ren.ti t).isSome = true := by
  unfold cellsFit at h
  split at h
  · rename_i T hty
    obtain ⟨_, hw, hst⟩ := rowTy_ok (H.ty _ _ hty)
    refine ⟨by rw [← hw]; simpa using h, ?_⟩
    unfold isSt at hst
    split at hst <;> simp_all
  · simp only [Bool.and_eq_true, beq_iff_eq] at h
    have := H.oth _ h.1
    exact ⟨by simp [szT, this, h.2], by simp [this]⟩
theorem rowTy_some {ti : TI} {t : TypeId} {T : Ty} (h : rowTy ti t T = true) : (ti t).isSome = true := by
  have hst := (rowTy_ok h).2.2
  unfold isSt at hst
  split at hst <;> simp_all

theorem setRow_rel {h : VH} {tT T : Ty} {x : T.den} {fld : Nat} {a : TA} {K : T.den → Prop} (hok : T.ok = true) (hk : setRow h tT T x fld a K) {e : EV} (hr : relA h f a e) :
    ∃ y ds, K y ∧ (∀ K' : T.den → Prop, K' y → setRow h tT T x fld a K') ∧ cellsOf e = some ds ∧ ds.length = tT.w ∧ fld + ds.length ≤ T.w ∧ T.cells y = (T.cells x).take fld ++ ds ++ (T.cells x).drop (fld + ds.length) := by
  have gen : chk tT.atom (setF h T x fld a K) → (∀ K' : T.den → Prop, chk tT.atom (setF h T x fld a K') → setRow h tT T x fld a K') →
      ∃ y ds, K y ∧ (∀ K' : T.den → Prop, K' y → setRow h tT T x fld a K') ∧ cellsOf e = some ds ∧ ds.length = tT.w ∧ fld + ds.length ≤ T.w ∧ T.cells y = (T.cells x).take fld ++ ds ++ (T.cells x).drop (fld + ds.length) := by
    intro hk hext
    rw [chk_iff] at hk
    obtain ⟨hat, hk⟩ := hk
    obtain ⟨y, d, h1, h2, h3, h4, h5⟩ := setF_rel hr hok hk
    refine ⟨y, [d], h1, fun K' hk => hext K' (chk_iff.mpr ⟨hat, h2 K' hk⟩), cellD_cellsOf h3, by rw [Ty.atom_w hat]; rfl, by simp; omega, ?_⟩
    rw [h5]
    have hlt : fld < (T.cells x).length := by rw [Ty.cells_len hok]; exact h4
    rw [List.set_eq_take_append_cons_drop]
    simp [hlt]
  unfold setRow at hk
  split at hk
  · rename_i g r y
    rw [chk_iff] at hk
    obtain ⟨hc, hk⟩ := hk
    have hc' := hc
    simp only [Bool.and_eq_true, decide_eq_true_eq] at hc'
    obtain ⟨rfl, rfl⟩ := hc'
    obtain ⟨he, hk, hext⟩ := castD_ext hk
    subst he
    obtain ⟨_, rfl⟩ := hr
    refine ⟨y, _, hk, fun K' hk => ?_, vE_cells y, Ty.cells_len hok y, by rw [Ty.cells_len hok]; omega, ?_⟩
    · show chk (decide (0 = 0) && decide (Ty.cons g r = Ty.cons g r)) (castD y K')
      rw [chk_iff]; exact ⟨by simp, hext K' hk⟩
    · simp [Ty.cells_len hok, List.drop_eq_nil_of_le]
  · rename_i hne
    refine gen hk (fun K' hk => ?_)
    unfold setRow
    split
    · exact absurd rfl (hne _ _ _)
    · exact hk

theorem vop_store (H : VOk ven ren) (h : Rel nt f vs st) {tt : TypeId} {x v : Operand} (ho : o.op = .store tt x v) (hk : vop ven b vs.h vs.t o K) : OpRes nt ven ren b vs st o K := by
  have hk' := hk
  simp only [vop, ho] at hk'
  rw [chk_iff] at hk'
  obtain ⟨hd, hk'⟩ := hk'
  have hdn : o.dst = none := by simpa using hd
  have hx := vo_rel h x
  have hv := voT_rel H h tt v
  have fin : ∀ us, K (.a .dead) us → (∀ K' : Ups → Prop, K' us → vstore ven.ty ven.oth vs.h tt (vo vs.t x) (voT ven.ty tt vs.t v) K') → UpsOk vs.h b us →
      (∀ KE : St → Prop, (∀ st', Rel nt f (vs.up us) st' → KE st') → EWop ren o st KE) → OpRes nt ven ren b vs st o K := fun us h1 h2 h3 h4 =>
    ⟨.a .dead, us, h1, fun K' hk => by simp only [vop, ho]; rw [chk_iff]; exact ⟨hd, h2 _ hk⟩, h3, fun KE hKE => h4 KE fun st' hR => by
      have := hKE st' f .dead hR trivial
      rw [hdn] at this; exact this⟩
  unfold vstore at hk'
  split at hk'
  case h_2 => exact hk'.elim
  rename_i n row fld hxv
  rw [hxv] at hx
  simp only [relA] at hx
  split at hk'
  · -- a box
    rename_i cells hs
    rw [hs] at hx
    obtain ⟨_, hxe⟩ := hx
    split at hk'
    case h_2 => exact hk'.elim
    rename_i cs hcs
    rw [chk_iff] at hk'
    obtain ⟨hc, hk'⟩ := hk'
    have hc' := hc
    simp only [Bool.and_eq_true, decide_eq_true_eq] at hc'
    obtain ⟨hfit, hle⟩ := hc'
    obtain ⟨hsz, hsome⟩ := cellsFit_rel H hfit
    obtain ⟨_, es, hob, hall⟩ := relS.box h hs
    obtain ⟨es2, h1, h2⟩ := boxTAs_rel h hv hcs
    have hl2 := h2.length
    have hl1 := hall.length
    refine fin _ hk' (fun K' hk => by unfold vstore; simp only [hxv, hs, hcs]; rw [chk_iff]; exact ⟨hc, hk⟩) (UpsOk.one (.inl (by rw [hs]; simp))) (fun KE hKE => ?_)
    have e1 : frzStore st (ev st x) (evT ren.ti tt st v) = st := by simp [frzStore, hxe, hob]
    simp only [EWop, ho]
    refine ⟨hdn, ?_⟩
    rw [e1, hxe]
    simp only [pstore, hob]
    refine ⟨trivial, es2, h1, by rw [← hl2]; exact hsz, hsome, by rw [← hl2, ← hl1]; exact hle, ?_⟩
    refine hKE _ ?_
    have hR := h.set (n := n) (s := .box (cells.take fld ++ cs ++ cells.drop (fld + cs.length))) (ob := .box (es.take fld ++ es2 ++ es.drop (fld + es2.length)))
      (HLe.set (by rw [hs]; exact .inr ⟨_, rfl⟩)) (by rw [hs]; rfl) rfl ⟨_, rfl, by rw [← hl2]; exact All2.set' hall h2 _ _⟩
    exact hR
  · -- an array
    rename_i T0 rows0 fz0 hs0
    unfold storeA at hk'
    split at hk'
    case h_2 => exact hk'.elim
    rename_i T rows hs1
    split at hk'
    case h_2 => exact hk'.elim
    rename_i tT hty
    rw [chk_iff] at hk'
    obtain ⟨hsol, hk'⟩ := hk'
    have hF : relF vs.h f st (voT ven.ty tt vs.t v) (evT ren.ti tt st v) := .inl ⟨hsol, hv⟩
    have h1 : Rel nt f (vs.up (frz1 vs.h (voT ven.ty tt vs.t v))) (frzOf st (evT ren.ti tt st v)) := h.frz1 hF
    have hs1' : hget (vs.up (frz1 vs.h (voT ven.ty tt vs.t v))).h n = .arr T rows false := hs1
    -- the array was not frozen before
    have hs : hget vs.h n = .arr T rows false := by
      rcases frz1_cases h hF with ⟨h2, _⟩ | ⟨m, sg, T', rows', _, hm, h2, _, _⟩
      · rw [h2] at hs1; exact hs1
      · rw [h2] at hs1
        simp only [hup] at hs1
        rw [hget_cons] at hs1
        split at hs1
        · simp at hs1
        · exact hs1
    rw [hs] at hx
    obtain ⟨hrow0, hrow1, hxe⟩ := hx
    replace hxe := hxe rfl
    obtain ⟨_, hob0⟩ := relS.arr h hs
    obtain ⟨hflt, hob⟩ := relS.arr h1 hs1'
    have hokT := relS.ok h hs
    have hv1 : relA (vs.up (frz1 vs.h (voT ven.ty tt vs.t v))).h f (voT ven.ty tt vs.t v) (evT ren.ti tt (frzOf st (evT ren.ti tt st v)) v) := voT_rel H h1 tt v
    obtain ⟨y, ds, hKy, hext, hds, hlen, hle, hcells⟩ := setRow_rel hokT hk' hv1
    have hrowT := H.ty _ _ hty
    have hlt : row.toNat < rows.length := by omega
    have hget : (rows.map T.cells)[row.toNat]? = some (T.cells (rd T rows row)) := by rw [List.getElem?_map, rd_get hlt]; rfl
    refine fin _ hKy (fun K' hk => ?_) ((UpsOk.frz1 _).append (UpsOk.later (UpsOk.one (.inl (by rw [hs1]; simp))) (UpsOk.frz1 _))) (fun KE hKE => ?_)
    · unfold vstore; simp only [hxv, hs0, storeA, hs1, hty]; rw [chk_iff]; exact ⟨hsol, hext _ hk⟩
    have e1 : frzStore st (ev st x) (evT ren.ti tt st v) = frzOf st (evT ren.ti tt st v) := by simp [frzStore, hxe, hob0]
    have hx1 := vo_rel h1 x
    rw [show vo (vs.up (frz1 vs.h (voT ven.ty tt vs.t v))).t x = vo vs.t x from rfl, hxv] at hx1
    simp only [relA] at hx1
    rw [hs1'] at hx1
    simp only [EWop, ho]
    refine ⟨hdn, ?_⟩
    rw [e1, hx1.2.2 rfl]
    simp only [pstore, hob]
    refine ⟨ds, hds, by rw [hlen]; exact (rowTy_ok hrowT).2.1, rowTy_some hrowT, T.cells (rd T rows row), hget, by rw [Ty.cells_len hokT]; exact hle, ?_⟩
    refine hKE _ ?_
    rw [up_append]
    have hR := h1.set (n := n) (s := .arr T (wr rows row y) false) (ob := .arr T.w ((wr rows row y).map T.cells))
      (HLe.set (by rw [hs1']; exact .inr ⟨_, rfl, by simp [wr], fun h => by simp at h⟩)) (by rw [hs1']; rfl) rfl ⟨hokT, rfl⟩
    have e2 : (rows.map T.cells).set row.toNat ((T.cells (rd T rows row)).take fld ++ ds ++ (T.cells (rd T rows row)).drop (fld + ds.length)) = (wr rows row y).map T.cells := by
      rw [← hcells, wr, List.map_set]
    rw [e2]
    exact hR
  · exact hk'.elim

/-! ### literals -/
theorem frzParts_rel' : ∀ {ps : List (Nat × Operand)} {vs : VSt} {st : St}, Rel nt f vs st → solidS vs.h (partTAs (vparts vs.t ps)) = true → Rel nt f (vs.up (frzL vs.h (partTAs (vparts vs.t ps)))) (frzParts st ps)
  | [], vs, st, h, _ => h
  | p :: ps, vs, st, h, hs => by
    simp only [vparts, partTAs, List.map_cons, solidS, Bool.and_eq_true] at hs
    have h1 : Rel nt f (vs.up (frz1 vs.h (vo vs.t p.2))) (frzOf st (ev st p.2)) := h.frz1 (.inl ⟨hs.1, vo_rel h p.2⟩)
    have h2 := frzParts_rel' (ps := ps) h1 hs.2
    simp only [vparts, partTAs, List.map_cons, frzL, up_append, frzParts]
    exact h2
theorem parts_relP (h : Rel nt f vs st) : ∀ (ps : List (Nat × Operand)), All2 (relP vs.h f) (vparts vs.t ps) (ps.map fun p => (p.1, ev st p.2))
  | [] => trivial
  | p :: ps => ⟨⟨rfl, vo_rel h p.2⟩, parts_relP h ps⟩

theorem vop_build (H : VOk ven ren) (h : Rel nt f vs st) {tt : TypeId} {ps : Array (Nat × Operand)} (ho : o.op = .build tt ps) (hk : vop ven b vs.h vs.t o K) : OpRes nt ven ren b vs st o K := by
  have hk' := hk
  simp only [vop, ho] at hk'
  unfold vbuild at hk'
  split at hk'
  case h_2 => exact hk'.elim
  rename_i g r hty
  rw [chk_iff] at hk'
  obtain ⟨hsol, hk'⟩ := hk'
  have h1 := frzParts_rel' h hsol
  obtain ⟨fts, hti, hfb⟩ := rowTy_cons (H.ty _ _ hty)
  have hok := (fB_ok hfb).1
  have hps := parts_relP h1 ps.toList
  obtain ⟨y, hy, hext, hfill⟩ := fillV_rel hok hps hk'
  obtain ⟨es, hz, _, hcd⟩ := zeros_rel (f := f) (h := vs.h) hfb
  refine ⟨_, _, hy, fun K' hk => by simp only [vop, ho, vbuild, hty]; rw [chk_iff]; exact ⟨hsol, hext _ hk⟩, UpsOk.frzL, fun KE hKE => ?_⟩
  simp only [EWop, ho, pbuild, hti]
  refine ⟨es, hz, _, hcd, _, hfill, ?_⟩
  have e1 : ((Ty.cells (.cons g r) y).map fun d => [d]).flatten = Ty.cells (.cons g r) y := by
    generalize Ty.cells (.cons g r) y = l
    induction l with
    | nil => rfl
    | cons a l ih => simp only [List.map_cons, List.flatten_cons, ih]; rfl
  rw [e1]
  exact hKE _ f _ h1 ⟨hok, rfl⟩

theorem free_frzL : ∀ {as : List TA} {h : VH} {n : Nat}, hget h n = .free → hget (hup h (frzL h as)) n = .free
  | [], _, _, hs => hs
  | a :: as, h, n, hs => by
    simp only [frzL, hup_append]
    refine free_frzL ?_
    cases a with
    | own m sg =>
      simp only [frz1]
      split
      · rename_i T rows hm
        simp only [hup]
        rw [hget_ne _ _ (fun he => by subst he; rw [hm] at hs; simp at hs)]
        exact hs
      · exact hs
    | _ => exact hs

theorem vop_buildSlice (H : VOk ven ren) (h : Rel nt f vs st) (hb : ∀ n, b ≤ n → n < b + 8 → hget vs.h n = .free) (h4 : 4 ≤ b) {tt : TypeId} {len : Nat} {ps : Array (Nat × Operand)} (ho : o.op = .buildSlice tt len ps) (hk : vop ven b vs.h vs.t o K) : OpRes nt ven ren b vs st o K := by
  have hk' := hk
  simp only [vop, ho] at hk'
  unfold vbuildSlice at hk'
  split at hk'
  case h_2 => exact hk'.elim
  rename_i r hty
  rw [chk_iff] at hk'
  obtain ⟨hc, hk'⟩ := hk'
  have hc' := hc
  simp only [Bool.and_eq_true, decide_eq_true_eq] at hc'
  obtain ⟨hlim, hsol⟩ := hc'
  have h1 := frzParts_rel' h hsol
  obtain ⟨e0, hti, hre⟩ := rowTy_sl (H.ty _ _ hty)
  obtain ⟨hok, hw, _⟩ := rowTy_ok hre
  have hps := parts_relP h1 ps.toList
  obtain ⟨ys, hy, hext, hlen, hfill⟩ := rowsV_rel hok (by simp) hps hk'
  obtain ⟨es, hz, _, hcd⟩ := zeroBox_rel (f := f) (h := vs.h) hre
  refine ⟨_, _, hy, fun K' hk => by simp only [vop, ho, vbuildSlice, hty]; rw [chk_iff]; exact ⟨hc, hext _ hk⟩, (UpsOk.frzL).append (UpsOk.later (us := frzL vs.h (partTAs (vparts vs.t ps.toList))) (UpsOk.one (.inr ⟨Nat.le_refl _, by omega⟩)) UpsOk.frzL), fun KE hKE => ?_⟩
  simp only [EWop, ho, pbuildSlice, hti]
  have e1 : (List.replicate len r.dfl).map r.cells = List.replicate len (r.cells r.dfl) := by simp
  rw [e1] at hfill
  rw [← hw]
  refine ⟨hlim, es, hz, _, hcd, _, hfill, ?_⟩
  have hfree : hget (vs.up (frzL vs.h (partTAs (vparts vs.t ps.toList)))).h b = .free := free_frzL (hget_b hb)
  have hR := h1.new (ob := .arr r.w (ys.map r.cells)) hfree h4 (s := .arr r ys false) rfl ⟨hok, rfl⟩
  refine hKE _ _ (.own (frzParts st ps.toList).nx 0 len) (by rw [up_append]; exact hR) ?_
  simp only [relV, relA, hup_append]
  simp only [hup, hget_same]
  simp [segIn, segOff, segLen, hlen]

/-! ### append, copy -/
theorem srcV_ext (h : Rel nt f vs st) {r : Ty} {a : TA} {e : EV} {K : List r.den → Prop} (hr : relA vs.h f a e) (hk : srcV vs.h r a K) :
    ∃ xs, K xs ∧ (∀ K' : List r.den → Prop, K' xs → srcV vs.h r a K') ∧ srcRows st e = some (r.w, xs.map r.cells) := by
  unfold srcV at hk
  split at hk
  · rename_i r'
    rw [chk_iff] at hk
    obtain ⟨hc, hk⟩ := hk
    have := of_decide_eq_true hc
    subst this
    obtain ⟨_, rfl⟩ := hr
    exact ⟨[], hk, fun K' hk => show chk (decide (r' = r')) (K' []) from chk_iff.mpr ⟨hc, hk⟩, rfl⟩
  · rename_i r' xs
    obtain ⟨he, hk, hext⟩ := castD_ext hk
    have he' : r' = r := by injection he
    subst he'
    obtain ⟨_, rfl⟩ := hr
    exact ⟨xs, hk, fun K' hk => by unfold srcV; exact hext K' hk, rfl⟩
  · rename_i n sg
    split at hk
    case h_2 => exact hk.elim
    rename_i T rows fz hs
    obtain ⟨he, hk, hext⟩ := castD_ext hk
    have he' : T = r := by injection he
    subst he'
    simp only [relA] at hr
    rw [hs] at hr
    refine ⟨segOf rows sg, hk, fun K' hk => by simp only [srcV]; rw [hs]; exact hext K' hk, ?_⟩
    cases fz with
    | true => rw [hr.2.1 rfl]; rfl
    | false =>
      obtain ⟨_, hob⟩ := relS.arr h hs
      rw [hr.2.2 rfl]
      simp only [srcRows, hob]
      rw [segOf_eq, List.map_take, List.map_drop]
  · exact hk.elim

theorem fitsL_spec {n : Int} (h : fitsL n = true) : n ≤ 68719476736 := of_decide_eq_true (fitsL_eq _ ▸ h)
theorem isSl_rel (H : VOk ven ren) {t : TypeId} (hs : isSl (ven.ty t) = true) : ∃ e, ren.ti t = some (.sl e) := by
  unfold isSl at hs
  split at hs
  · rename_i r h1; obtain ⟨e, h2, _⟩ := rowTy_sl (H.ty _ _ h1); exact ⟨e, h2⟩
  · simp at hs

theorem vop_append (H : VOk ven ren) (h : Rel nt f vs st) (hb : ∀ n, b ≤ n → n < b + 8 → hget vs.h n = .free) (h4 : 4 ≤ b) {tt tx : TypeId} {s x : Operand} {args : Array Operand} {ats : Array TypeId} (ho : o.op = .call { callee := .builtin .append, args := args, argTypes := ats }) (hargs : args.toList = [s, x]) (hats : ats.toList = [tt, tx]) (hk : vop ven b vs.h vs.t o K) : OpRes nt ven ren b vs st o K := by
  have hk' := hk
  simp only [vop, ho, hargs, hats, vbuiltin] at hk'
  have hsr := voT_rel H h tt s
  have hxr := voT_rel H h tx x
  unfold vappend at hk'
  split at hk'
  case h_2 => exact hk'.elim
  rename_i r hty
  rw [chk_iff] at hk'
  obtain ⟨hsl, hk'⟩ := hk'
  obtain ⟨e0, hti, hre⟩ := rowTy_sl (H.ty _ _ hty)
  obtain ⟨e1, hti2⟩ := isSl_rel H hsl
  obtain ⟨hok, hw, _⟩ := rowTy_ok hre
  have hel := rowTy_elem (H.ty _ _ hty)
  obtain ⟨news, hk', hext, hsrc⟩ := srcV_ext h hxr hk'
  split at hk'
  · rename_i r' hsv
    rw [chk_iff] at hk'
    obtain ⟨hc, hk'⟩ := hk'
    have := of_decide_eq_true hc
    subst this
    obtain ⟨hg, hk'⟩ := grd_iff.mp hk'
    rw [hsv] at hsr
    obtain ⟨_, hse⟩ := hsr
    refine ⟨_, _, hk', fun K' hk => by simp only [vop, ho, hargs, hats, vbuiltin, vappend, hty, hsv]; rw [chk_iff]; exact ⟨hsl, hext _ (chk_iff.mpr ⟨by simp, grd_iff.mpr ⟨hg, hk⟩⟩)⟩, UpsOk.one (.inr ⟨Nat.le_refl _, by omega⟩), fun KE hKE => ?_⟩
    simp only [EWop, ho, hargs, hats, pbuiltin]
    refine ⟨⟨e0, hti⟩, ⟨e1, hti2⟩, ?_⟩
    simp only [pappend, hsrc, hse, List.length_map]
    refine ⟨hel.symm, by have := fitsL_spec hg; simp only [llen] at this; unfold LIM; omega, ?_⟩
    have hR := h.new (ob := .arr r'.w (news.map r'.cells)) (hget_b hb) h4 (s := .arr r' news false) rfl ⟨hok, rfl⟩
    refine hKE _ _ (.own st.nx 0 news.length) hR ?_
    simp only [relV, relA, hup, hget_same]
    simp [segIn, segOff, segLen]
  · rename_i n sg hsv
    split at hk'
    case h_2 => exact hk'.elim
    rename_i T rows hs
    obtain ⟨he, hk', hext2⟩ := castD_ext hk'
    have he' : T = r := by injection he
    subst he'
    obtain ⟨hg, hk'⟩ := grd_iff.mp hk'
    rw [hsv] at hsr
    simp only [relA] at hsr
    rw [hs] at hsr
    obtain ⟨hin, _, hse⟩ := hsr
    replace hse := hse rfl
    obtain ⟨_, hob⟩ := relS.arr h hs
    have hnb : n ≠ b := fun he => by subst he; rw [hget_b hb] at hs; simp at hs
    refine ⟨_, _, hk', fun K' hk => by simp only [vop, ho, hargs, hats, vbuiltin, vappend, hty, hsv, hs]; rw [chk_iff]; exact ⟨hsl, hext _ (hext2 _ (grd_iff.mpr ⟨hg, hk⟩))⟩, ?_, fun KE hKE => ?_⟩
    · intro u hu
      simp at hu
      rcases hu with rfl | rfl
      · exact .inl (by rw [hs]; simp)
      · exact .inr ⟨Nat.le_refl _, by omega⟩
    simp only [EWop, ho, hargs, hats, pbuiltin]
    refine ⟨⟨e0, hti⟩, ⟨e1, hti2⟩, ?_⟩
    simp only [pappend, hsrc, hse, hob, List.length_map]
    have hsl' := segLenI_eq hin
    refine ⟨hel.symm, trivial, by have := fitsL_spec hg; simp only [llen, zadd] at this; rw [hsl'] at this; unfold LIM; omega, ?_⟩
    have hD := h.drop (n := n) (by rw [hs]; rfl)
    have hfree : hget ((n, Slot.gone) :: vs.h) b = .free := by rw [hget_ne _ _ hnb]; exact hget_b hb
    have hR := hD.new (ob := .arr T.w ((lapp (segOf rows sg) news).map T.cells)) hfree h4 (s := .arr T (lapp (segOf rows sg) news) false) rfl ⟨hok, rfl⟩
    have e2 : (((rows.map T.cells).drop (segOff sg)).take (segLen rows sg)) ++ news.map T.cells = (lapp (segOf rows sg) news).map T.cells := by
      rw [lapp, List.map_append, segOf_eq, List.map_take, List.map_drop]
    rw [e2]
    refine hKE _ _ (.own (st.drop (f n)).nx 0 (segLen rows sg + news.length)) hR ?_
    simp only [relV, relA, hup, hget_same]
    simp [segIn, segOff, segLen, lapp, segOf_len hin]
  · exact hk'.elim

theorem vop_copy (H : VOk ven ren) (h : Rel nt f vs st) {tt tx : TypeId} {s x : Operand} {args : Array Operand} {ats : Array TypeId} (ho : o.op = .call { callee := .builtin .copy, args := args, argTypes := ats }) (hargs : args.toList = [s, x]) (hats : ats.toList = [tt, tx]) (hk : vop ven b vs.h vs.t o K) : OpRes nt ven ren b vs st o K := by
  have hk' := hk
  simp only [vop, ho, hargs, hats, vbuiltin] at hk'
  have hsr := voT_rel H h tt s
  have hxr := voT_rel H h tx x
  unfold vcopy at hk'
  split at hk'
  case h_2 => exact hk'.elim
  rename_i n sg hsv
  split at hk'
  case h_2 => exact hk'.elim
  rename_i T rows hs
  rw [chk_iff] at hk'
  obtain ⟨hc, hk'⟩ := hk'
  have hc' := hc
  simp only [Bool.and_eq_true, decide_eq_true_eq] at hc'
  obtain ⟨e0, hti, hre⟩ := rowTy_sl (H.ty _ _ hc'.1)
  obtain ⟨e1, hti2⟩ := isSl_rel H hc'.2
  have hok := relS.ok h hs
  have hel := rowTy_elem (H.ty _ _ hc'.1)
  obtain ⟨news, hk', hext, hsrc⟩ := srcV_ext h hxr hk'
  obtain ⟨hg, hk'⟩ := grd_iff.mp hk'
  rw [hsv] at hsr
  simp only [relA] at hsr
  rw [hs] at hsr
  obtain ⟨hin, _, hse⟩ := hsr
  replace hse := hse rfl
  obtain ⟨_, hob⟩ := relS.arr h hs
  have hsl' := segLenI_eq hin
  have hlen : news.length = segLen rows sg := by
    have := of_decide_eq_true hg
    rw [hsl'] at this
    simp only [llen] at this
    omega
  have hcp : (cpRows rows news sg) = rows.take (segOff sg) ++ news ++ rows.drop (segOff sg + segLen rows sg) := by
    cases sg with
    | none => simp only [segLen] at hlen; simp [cpRows, segOff, segLen]
    | some p => rfl
  have hcl : (cpRows rows news sg).length = rows.length := by
    rw [hcp]
    have hle : segOff sg + segLen rows sg ≤ rows.length := by
      cases sg with
      | none => simp [segOff, segLen]
      | some p => obtain ⟨lo, ln⟩ := p; simp only [segIn] at hin; simp only [segOff, segLen]; omega
    simp only [List.length_append, List.length_take, List.length_drop, hlen]
    omega
  refine ⟨_, _, hk', fun K' hk => by simp only [vop, ho, hargs, hats, vbuiltin, vcopy, hsv, hs]; rw [chk_iff]; exact ⟨hc, hext _ (grd_iff.mpr ⟨hg, hk⟩)⟩, UpsOk.one (.inl (by rw [hs]; simp)), fun KE hKE => ?_⟩
  simp only [EWop, ho, hargs, hats, pbuiltin]
  refine ⟨⟨e0, hti⟩, ⟨e1, hti2⟩, ?_⟩
  simp only [pcopy, hsrc, hse, hob, List.length_map]
  have hle : segOff sg + segLen rows sg ≤ rows.length := by
    cases sg with
    | none => simp [segOff, segLen]
    | some p => obtain ⟨lo, ln⟩ := p; simp only [segIn] at hin; simp only [segOff, segLen]; omega
  refine ⟨trivial, hel.symm, hlen, hle, ?_⟩
  have hR := h.set (n := n) (s := .arr T (cpRows rows news sg) false) (ob := .arr T.w ((cpRows rows news sg).map T.cells))
    (HLe.set (by rw [hs]; exact .inr ⟨_, rfl, hcl, fun h => by simp at h⟩)) (by rw [hs]; rfl) rfl ⟨hok, rfl⟩
  have e2 : (rows.map T.cells).take (segOff sg) ++ news.map T.cells ++ (rows.map T.cells).drop (segOff sg + segLen rows sg) = (cpRows rows news sg).map T.cells := by
    rw [hcp]; simp [List.map_take, List.map_drop]
  rw [e2]
  refine hKE _ f (.d (.im (.int .i64 (segLen rows sg)))) hR ?_
  exact ⟨rfl, by rw [hsl']; rfl⟩
end Go.RX

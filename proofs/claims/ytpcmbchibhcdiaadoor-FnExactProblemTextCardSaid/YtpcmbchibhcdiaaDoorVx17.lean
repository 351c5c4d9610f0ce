/- VX, part 17: code, and contracts out of it. -/
import Derived.Test.YtpcmbchibhcdiaaDoorVxR
namespace Go.RX
open Go

variable {nt : Nat} {f : Nat → Nat} {vs : VSt} {st : St} {ven : VEn} {ren : En}

section
variable {G : Nat → Prop} {w0 : World} {io : List (Nat × Nat)}

def NxQ (nt : Nat) (G : Nat → Prop) (w0 : World) (io : List (Nat × Nat)) (Q : Exit → VSt → Prop) (e : Exit) (a : Act) (w : World) : Prop := Nxv nt G w0 io (Q e) a w

theorem vwp_sound (HP : TIok ren.P ren.ti) (H : VOk ven ren) (hW : Ext ren.W0 w0) (hio : ∀ b ∈ ioB io, ren.W0.heap.size ≤ b) (h4 : ∀ p ∈ io, p.1 < 4) (hm : ren.P.follows .mixedOrders = true) :
    ∀ (c : Code) {an : Ann} {Q : Exit → VSt → Prop} {f : Nat → Nat} {vs : VSt} {st : St} {a : Act} {w : World} {β : Beta},
    SimB G w0 io st a w β → Rel nt f vs st → Top vs → vwp ven nt c an Q vs → c.wp ren.P (NxQ nt G w0 io Q) a w := by
  intro c
  induction c with
  | skip => intro an Q f vs st a w β hs h ht hk; exact wp_skip ⟨vs, f, st, β, hk, h, ht, hs⟩
  | region id ops draw =>
    intro an Q f vs st a w β hs h ht hk
    simp only [vwp] at hk
    cases draw with
    | true =>
      simp only [cond_true] at hk
      obtain ⟨hok, hk⟩ := chk_iff.mp hk
      have hs' : SimB G w0 io st a { w with drawn := w.drawn + 1 } β := heap_rel hs rfl rfl rfl
      refine wp_mono (wp_region_any hm (vreg_sound HP H hW hio hs' h ht hok hk)) ?_
      rintro e a w ⟨rfl, h⟩
      exact h
    | false =>
      simp only [cond_false] at hk
      exact wp_region_list (vops_sound (Q := NxQ nt G w0 io Q) HP H hW hio (fun a w h => h) hs h ht hk)
  | seq x y ihx ihy =>
    intro an Q f vs st a w β hs h ht hk
    refine wp_seq (wp_mono (ihx hs h ht hk) ?_)
    rintro e a w ⟨vs, f, st, β, h1, h2, h3, h4⟩
    cases e <;> first | exact ihy h4 h2 h3 h1 | exact ⟨vs, f, st, β, h1, h2, h3, h4⟩
  | cond c x y ihx ihy =>
    intro an Q f vs st a w β hs h ht hk
    simp only [vwp] at hk
    have hc := vo_rel h c
    have hev := ev_rel hs c
    unfold vcondB at hk
    split at hk
    case h_2 => exact hk.elim
    rename_i bb hv
    rw [hv] at hc
    rw [hc.2] at hev
    have hc' := evr_im hev
    refine wp_cond (t := bb) hc' ?_
    rw [br_iff] at hk
    cases bb
    · exact ihy hs h ht (hk.2 rfl)
    · exact ihx hs h ht (hk.1 rfl)
  | block id c ih =>
    intro an Q f vs st a w β hs h ht hk
    refine wp_block (wp_mono (ih hs h ht hk) ?_)
    rintro e a w ⟨vs, f, st, β, h1, h2, h3, h4⟩
    cases e with
    | exit i =>
      simp only [Exit.inBlock]
      simp only [blQ] at h1
      by_cases hi : i = id
      · have : Nat.beq i id = true := by rw [hi]; exact Nat.beq_refl _
        rw [this] at h1
        simp only [hi, if_true]
        exact ⟨vs, f, st, β, h1, h2, h3, h4⟩
      · have : Nat.beq i id = false := by
          cases hb : Nat.beq i id with
          | false => rfl
          | true => exact absurd (Nat.eq_of_beq_eq_true hb) hi
        rw [this] at h1
        simp only [hi, if_false]
        exact ⟨vs, f, st, β, h1, h2, h3, h4⟩
    | _ => exact ⟨vs, f, st, β, h1, h2, h3, h4⟩
  | loop c ih =>
    intro an Q f vs st a w β hs h ht hk
    simp only [vwp] at hk
    obtain ⟨x, ⟨n, hx⟩, _, htx, st', f', hle, hR⟩ := dec_ext h ht hk
    obtain ⟨β', hs'⟩ := hle _ _ _ _ _ _ h4 hs
    refine wp_loop_ghost (fun n a w => ∃ x f st β, itP (fun (next : an.sh.den → Prop) s => vwp ven nt c an.fst (nmQ (fun st => an.sh.dec st next) Q) (an.sh.enc s)) n x ∧ Rel nt f (an.sh.enc x) st ∧ Top (an.sh.enc x) ∧ SimB G w0 io st a w β) n ⟨x, f', st', β', hx, hR, htx, hs'⟩ ?_
    rintro n a w ⟨x, f, st, β, hx, hR, htx, hs⟩
    cases n with
    | zero => exact hx.elim
    | succ n =>
      refine wp_mono (ih hs hR htx hx) ?_
      rintro e a w ⟨vs, f, st, β, h1, h2, h3, h4'⟩
      cases e with
      | normal =>
        obtain ⟨y, hy, _, hty, st', f', hle, hR⟩ := dec_ext h2 h3 h1
        obtain ⟨β', hs'⟩ := hle _ _ _ _ _ _ h4 h4'
        exact ⟨n, Nat.lt_succ_self _, y, f', st', β', hy, hR, hty, hs'⟩
      | _ => exact ⟨vs, f, st, β, h1, h2, h3, h4'⟩
  | exit id => intro an Q f vs st a w β hs h ht hk; exact wp_exit ⟨vs, f, st, β, hk, h, ht, hs⟩
  | ret => intro an Q f vs st a w β hs h ht hk; exact wp_ret ⟨vs, f, st, β, hk, h, ht, hs⟩
  | label l => intro an Q f vs st a w β hs h ht hk; exact wp_label ⟨vs, f, st, β, hk, h, ht, hs⟩
  | rangeFunc => intro an Q f vs st a w β hs h ht hk; exact hk.elim
  | scope => intro an Q f vs st a w β hs h ht hk; exact hk.elim
  | goto => intro an Q f vs st a w β hs h ht hk; exact hk.elim
  | refuse => intro an Q f vs st a w β hs h ht hk; exact hk.elim
end

/-! ### the end of a function -/
theorem cellAt_rel {h : VH} {n : Nat} {row : Int} {k : Nat} {cells : List TA} (hs : hget h n = .box cells) : cellAt h (.ptr n row k) = (cells[k]?).getD .dead := by
  simp only [cellAt, hs]
  cases cells[k]? <;> rfl
theorem isCons_st (H : VOk ven ren) {tt : TypeId} {T : Ty} (hT : ven.ty tt = some T) : isSt ren.ti tt = some (isCons (some T)) := by
  rw [(rowTy_ok (H.ty _ _ hT)).2.2]
  cases T <;> rfl
theorem frzR1_rel (H : VOk ven ren) (h : Rel nt f vs st) {r : ResultVar} {m : Bool} (hok : okR1 ven.ty vs.t m vs.h r = true) :
    Rel nt f (vs.up (frzR1 ven.ty vs.t m vs.h r)) (frzRes ren.ti st [r] [m]) := by
  cases r with
  | tmp i =>
    simp only [okR1, Bool.and_eq_true] at hok
    have hr : relA vs.h f (tvA (lk vs.t i)) ((st.t[i]?).getD .dead) := vo_rel h (.tmp i)
    exact (frzA_rel h m hok.1 hok.2 (.inl ⟨hok.1, hr⟩)).1
  | cell a tt =>
    simp only [okR1, Bool.and_eq_true] at hok
    obtain ⟨h1, h2⟩ := hok
    have hr : relA vs.h f (tvA (lk vs.t a)) ((st.t[a]?).getD .dead) := vo_rel h (.tmp a)
    simp only [frzR1, frzRes]
    cases hT : ven.ty tt with
    | none => rw [hT] at h2; simp [isCons] at h2
    | some T =>
      rw [isCons_st H hT]
      cases hc : isCons (some T) with
      | false => simp only [cond_false]; exact h
      | true =>
        rw [hT, hc] at h2
        simp only [cond_true, if_true] at h2 ⊢
        have hso : solid vs.h (tvA (lk vs.t a)) = true := by
          unfold isPB at h1
          split at h1
          · rename_i n _ _ he
            rw [he]
            simp only [solid]
            unfold isBox at h1
            split at h1
            · rename_i hb; rw [hb]; rfl
            · cases h1
          · cases h1
        exact (frzBox_rel' h hso h2 (.inl ⟨hso, hr⟩)).1
theorem frzRes_cons (ti : TI) (st : St) (r : ResultVar) (rs : List ResultVar) (m : List Bool) : frzRes ti st (r :: rs) m = frzRes ti (frzRes ti st [r] [m.headD false]) rs m.tail := by
  cases r <;> rfl
theorem frzRs_rel (H : VOk ven ren) : ∀ {rvs : List ResultVar} {m : List Bool} {vs : VSt} {st : St}, Rel nt f vs st → okRs ven.ty vs.t vs.h rvs m = true → Rel nt f (vs.up (frzRs ven.ty vs.t vs.h rvs m)) (frzRes ren.ti st rvs m)
  | [], m, vs, st, h, _ => h
  | r :: rs, m, vs, st, h, hok => by
    simp only [okRs, Bool.and_eq_true] at hok
    have h5 := frzR1_rel H h hok.1
    have h6 := frzRs_rel H (rvs := rs) (m := m.tail) h5 hok.2
    rw [frzRes_cons]
    simp only [frzRs, up_append]
    exact h6
theorem frzIs_rel : ∀ {ns : List Nat} {vs : VSt} {st : St}, Rel nt f vs st → okIs vs.h ns = true → Rel nt f (vs.up (frzIs vs.h ns)) (frzIos st ns)
  | [], vs, st, h, _ => h
  | n :: ns, vs, st, h, hok => by
    simp only [okIs, Bool.and_eq_true] at hok
    obtain ⟨⟨h1, h2⟩, h3⟩ := hok
    have hn : n < 4 := Nat.lt_of_succ_le (Nat.le_of_ble_eq_true h1)
    unfold okI at h2
    split at h2
    case h_2 => simp at h2
    rename_i cells hs
    obtain ⟨_, es, hob, hall⟩ := relS.box h hs
    rw [h.io n hn] at hob
    have e1 : frzI vs.h n = frzL vs.h cells := by simp [frzI, hs]
    have h4 : Rel nt f (vs.up (frzI vs.h n)) (frzCells st es) := by rw [e1]; exact h.frzL (solidL_relF h2 hall)
    have h5 := frzIs_rel (ns := ns) h4 h3
    simp only [frzIs, up_append, frzIos, hob]
    exact h5

theorem nodupN_iff : ∀ {l : List Nat}, nodupN l = true → l.Nodup
  | [], _ => by simp
  | n :: l, h => by
    simp only [nodupN, Bool.and_eq_true, Bool.not_eq_true'] at h
    simp only [List.nodup_cons]
    refine ⟨fun hm => ?_, nodupN_iff h.2⟩
    have := memN_iff.mpr hm
    rw [this] at h; simp at h

def evN : EV → List Nat
  | .own n _ _ => [n]
  | .ptr n _ _ => [n]
  | _ => []
theorem resV_rel (h : Rel nt f vs st) {own : Bool} {a : TA} {e : EV} {x : VR} (hr : relA vs.h f a e) (hx : resV vs.h own a = some x) :
    resRV st own e = some x.rv ∧ evN e = (resN vs.h a).map f ∧ ∀ n ∈ resN vs.h a, live (hget vs.h n) = true := by
  cases a with
  | v T y =>
    obtain ⟨_, rfl⟩ := hr
    simp only [resV, Option.some.injEq] at hx; subst hx
    refine ⟨by cases T <;> rfl, by cases T <;> rfl, by simp [resN]⟩
  | nilS r =>
    obtain ⟨_, rfl⟩ := hr
    cases own <;> (simp [resV] at hx; subst hx; exact ⟨rfl, rfl, by simp [resN]⟩)
  | own n sg =>
    simp only [resV] at hx
    simp only [relA] at hr
    split at hx
    · rename_i T rows hs
      rw [hs] at hr
      cases own with
      | false => simp at hx
      | true =>
        simp only [cond_true, Option.some.injEq] at hx; subst hx
        obtain ⟨_, hob⟩ := relS.arr h hs
        rw [hr.2.2 rfl]
        refine ⟨?_, by simp [resN, hs, evN], fun m hm => ?_⟩
        · simp only [resRV, if_true, hob, VR.rv, Option.some.injEq]
          rw [segOf_eq, List.map_take, List.map_drop]
        · simp [resN, hs] at hm; subst hm; rw [hs]; rfl
    · rename_i T rows hs
      rw [hs] at hr
      cases own with
      | true => simp at hx
      | false =>
        simp only [cond_false, Option.some.injEq] at hx; subst hx
        rw [hr.2.1 rfl]
        exact ⟨rfl, by simp [resN, hs, evN], by simp [resN, hs]⟩
    · simp at hx
  | ptr n row k =>
    simp only [resV] at hx
    simp only [relA] at hr
    split at hx
    case h_2 => simp at hx
    rename_i cells hs
    rw [hs] at hr
    cases hk : Nat.beq k 0 with
    | false => rw [hk] at hx; simp at hx
    | true =>
      rw [hk] at hx
      have hk0 := Nat.eq_of_beq_eq_true hk
      subst hk0
      simp only [cond_true] at hx
      split at hx
      case h_2 => simp at hx
      rename_i cs hcs
      simp only [Option.some.injEq] at hx; subst hx
      obtain ⟨_, es, hob, hall⟩ := relS.box h hs
      rw [hr.2]
      refine ⟨?_, by simp [resN, evN], fun m hm => ?_⟩
      · simp only [resRV, and_self, if_true, hob, cellsVV_rel hall hcs]
        rfl
      · simp [resN] at hm; subst hm; rw [hs]; rfl
  | dead => simp [resV] at hx
  | rptr _ _ _ => simp [resV] at hx
  | fn _ => simp [resV] at hx

theorem resK_rel (H : VOk ven ren) (h : Rel nt f vs st) {own : Bool} {r : ResultVar} {K : VR → Prop} (hk : resK ven.ty vs.h vs.t own K r) :
    ∃ x e, K x ∧ resVal ren.ti st r = some e ∧ resRV st own e = some x.rv ∧ evN e = (resN1 ven.ty vs.h vs.t r).map f ∧ ∀ n ∈ resN1 ven.ty vs.h vs.t r, live (hget vs.h n) = true := by
  cases r with
  | tmp i =>
    simp only [resK] at hk
    unfold optK at hk
    split at hk
    case h_2 => exact hk.elim
    rename_i x hx
    have hi : ∃ e, st.t[i]? = some e := by
      cases hl : lk vs.t i with
      | none => simp [hl, tvA, resV] at hx
      | some v => obtain ⟨e, he, _⟩ := h.t i v hl; exact ⟨e, he⟩
    obtain ⟨e, he⟩ := hi
    have hr : relA vs.h f (tvA (lk vs.t i)) ((st.t[i]?).getD .dead) := vo_rel h (.tmp i)
    rw [he] at hr
    obtain ⟨h3, h4, h5⟩ := resV_rel h hr hx
    exact ⟨x, e, hk, he, h3, h4, h5⟩
  | cell a tt =>
    simp only [resK] at hk
    have hr : relA vs.h f (tvA (lk vs.t a)) ((st.t[a]?).getD .dead) := vo_rel h (.tmp a)
    have hlk : ∀ n row k, tvA (lk vs.t a) = .ptr n row k → ∃ e, st.t[a]? = some e := by
      intro n row k he
      cases hl : lk vs.t a with
      | none => rw [hl] at he; simp [tvA] at he
      | some v => obtain ⟨e, he, _⟩ := h.t a v hl; exact ⟨e, he⟩
    unfold resCK at hk
    split at hk
    · rename_i g r hT
      unfold packC at hk
      split at hk
      case h_2 => exact hk.elim
      rename_i n row k hp
      split at hk
      case h_2 => exact hk.elim
      rename_i cells hs
      obtain ⟨e, he⟩ := hlk n row k hp
      rw [hp, he] at hr
      simp only [relA, hs] at hr
      obtain ⟨hrow, hre⟩ := hr
      have hre' : e = .ptr (f n) 0 k := hre
      obtain ⟨_, es, hob, hall⟩ := relS.box h hs
      have hok := rowTy_ok (H.ty _ _ hT)
      obtain ⟨x, h1, _, h3, h4⟩ := packT_rel hok.1 (hall.drop k) hk
      have hst := isCons_st H hT
      refine ⟨.v (.cons g r) x, .agg (Ty.cells (.cons g r) x), h1, ?_, rfl, by simp [evN, resN1, hT, isCons], by simp [resN1, hT, isCons]⟩
      simp only [resVal, he, hre', hob, if_true, hst, isCons]
      rw [← hok.2.1]
      rw [List.length_drop] at h3
      have hw : 0 < (Ty.cons g r).w := by simp [Ty.w]
      rw [if_pos (by omega), h4]
    · rename_i T hne hT
      unfold optK at hk
      split at hk
      case h_2 => exact hk.elim
      rename_i x hx
      cases hp : tvA (lk vs.t a) with
      | ptr n row k =>
        cases hs : hget vs.h n with
        | box cells =>
          rw [hp, cellAt_rel hs] at hx
          obtain ⟨e, he⟩ := hlk n row k hp
          rw [hp, he] at hr
          simp only [relA, hs] at hr
          obtain ⟨hrow, hre⟩ := hr
          have hre' : e = .ptr (f n) 0 k := hre
          obtain ⟨_, es, hob, hall⟩ := relS.box h hs
          cases hc : cells[k]? with
          | none => rw [hc] at hx; simp [resV] at hx
          | some c =>
            rw [hc] at hx
            obtain ⟨e', he', hr'⟩ := hall.get hc
            obtain ⟨h3, h4, h5⟩ := resV_rel h hr' hx
            have hcon : isCons (some T) = false := by
              cases T <;> first | rfl | exact absurd rfl (hne _ _)
            have hst := isCons_st H hT
            refine ⟨x, e', hk, ?_, h3, ?_, ?_⟩
            · simp only [resVal, he, hre', hob, if_true, hst, hcon]
              exact he'
            · simp only [resN1, hT, hcon, cond_false, hp, cellAt_rel hs, hc]
              exact h4
            · simp only [resN1, hT, hcon, cond_false, hp, cellAt_rel hs, hc]
              exact h5
        | _ => rw [hp] at hx; simp [cellAt, hs, resV] at hx
      | _ => rw [hp] at hx; simp [cellAt, resV] at hx
    · exact hk.elim

theorem ressK_rel (H : VOk ven ren) (h : Rel nt f vs st) : ∀ {rvs : List ResultVar} {m : List Bool} {K : List VR → Prop}, ressK ven.ty vs.h vs.t rvs m K →
    ∃ rs, K rs ∧ ressRV ren.ti st rvs m = some (rs.map VR.rv) ∧ ressOwn ren.ti st rvs = (ressN ven.ty vs.h vs.t rvs).map f ∧ ∀ n ∈ ressN ven.ty vs.h vs.t rvs, live (hget vs.h n) = true
  | [], m, K, hk => ⟨[], hk, rfl, rfl, by simp [ressN]⟩
  | r :: rvs, m, K, hk => by
    simp only [ressK] at hk
    obtain ⟨x, e, h1, h2, h3, h4, h5⟩ := resK_rel H h hk
    obtain ⟨rs, h6, h7, h8, h9⟩ := ressK_rel H h h1
    refine ⟨x :: rs, h6, ?_, ?_, fun n hn => ?_⟩
    · simp only [ressRV, h2, h3, h7]; rfl
    · simp only [ressOwn, h2, ressN, List.map_append, ← h8, ← h4]
      cases e <;> rfl
    · simp only [ressN, List.mem_append] at hn
      rcases hn with hn | hn
      · exact h5 n hn
      · exact h9 n hn

theorem iosV_rel (h : Rel nt f vs st) : ∀ {ns : List Nat} {ios : List (List VV)}, (∀ n ∈ ns, n < 4) → iosV vs.h ns = some ios → iosVal st ns = some (ios.map fun c => c.map vvD) ∧ ∀ n ∈ ns, live (hget vs.h n) = true
  | [], ios, _, hx => by simp [iosV] at hx; subst hx; exact ⟨rfl, by simp⟩
  | n :: ns, ios, hn, hx => by
    simp only [iosV] at hx
    split at hx
    case h_2 => simp at hx
    rename_i cells hs
    split at hx
    case h_2 => simp at hx
    rename_i c cs h1 h2
    simp only [Option.some.injEq] at hx; subst hx
    obtain ⟨_, es, hob, hall⟩ := relS.box h hs
    rw [h.io n (hn n (by simp))] at hob
    obtain ⟨h3, h4⟩ := iosV_rel h (fun n hm => hn n (by simp [hm])) h2
    refine ⟨by simp [iosVal, hob, cellsVV_rel hall h1, h3], fun m hm => ?_⟩
    simp only [List.mem_cons] at hm
    rcases hm with rfl | hm
    · rw [hs]; rfl
    · exact h4 m hm

theorem flat_cells : ∀ {T : Ty} (_ : T.flat = true) (x : T.den), ∀ d ∈ T.cells x, Dflat d
  | .int _, _, x, d, hd => by simp [Ty.cells] at hd; subst hd; trivial
  | .bool, _, x, d, hd => by simp [Ty.cells] at hd; subst hd; trivial
  | .str, _, x, d, hd => by simp [Ty.cells] at hd; subst hd; trivial
  | .byte, _, x, d, hd => by simp [Ty.cells] at hd; subst hd; trivial
  | .sl _, h, _, _, _ => by simp [Ty.flat] at h
  | .cons g r, h, x, d, hd => by
    simp only [Ty.flat, Bool.and_eq_true] at h
    simp only [Ty.cells, List.mem_append] at hd
    rcases hd with hd | hd
    · exact flat_cells h.1 x.1 d hd
    · exact flat_cells h.2 x.2 d hd
theorem flat_vv {c : VV} (h : c.1.flat = true) : Dflat (vvD c) := by
  obtain ⟨T, x⟩ := c
  unfold vvD
  cases hc : T.cells x with
  | nil => exact trivial
  | cons d l => exact flat_cells h x d (by rw [hc]; simp)
theorem flat_rv {r : VR} (h : r.flat = true) : RVflat r.rv := by
  cases r with
  | v T x =>
    cases T with
    | sl _ => simp [VR.flat, Ty.flat] at h
    | cons g r => exact flat_cells (T := .cons g r) h x
    | _ => exact trivial
  | own T rows =>
    intro r hr x hx
    obtain ⟨y, _, rfl⟩ := List.mem_map.mp hr
    exact flat_cells h y x hx
  | bx cells =>
    intro x hx
    obtain ⟨c, hc, rfl⟩ := List.mem_map.mp hx
    exact flat_vv (List.all_eq_true.mp h c hc)

theorem vfin_rel (H : VOk ven ren) (h : Rel nt f vs st) {fresh : Bool} {rvs : List ResultVar} {m : List Bool} {ns ls : List Nat} {post : List VR → List (List VV) → Prop} {e : Exit} (hk : vfin ven.ty fresh rvs m ns ls post e vs) :
    Exits ren.ti fresh rvs m ns ls (fun rs ios => ∃ vrs vios, post vrs vios ∧ rs = vrs.map VR.rv ∧ ios = vios.map fun c => c.map vvD) e st := by
  have key : vfinE ven.ty fresh rvs m ns ls post vs → Rets ren.ti fresh rvs m ns ls (fun rs ios => ∃ vrs vios, post vrs vios ∧ rs = vrs.map VR.rv ∧ ios = vios.map fun c => c.map vvD) st := by
    intro hk
    obtain ⟨hokR, hk⟩ := chk_iff.mp hk
    obtain ⟨hokI, hk⟩ := chk_iff.mp hk
    have h1 := frzRs_rel H h hokR
    have h2 := frzIs_rel (ns := ns) h1 hokI
    obtain ⟨rs, hk, h3, h4, h5⟩ := ressK_rel H h2 hk
    unfold vfinP at hk
    split at hk
    case h_2 => exact hk.elim
    rename_i ios hios
    obtain ⟨hc, hk⟩ := chk_iff.mp hk
    obtain ⟨hc1, hflat⟩ := Bool.and_eq_true_iff.mp hc
    obtain ⟨hnd, hls⟩ := Bool.and_eq_true_iff.mp hc1
    have hn4 : ∀ n ∈ ns, n < 4 := by
      have : ∀ {ns : List Nat} {h : VH}, okIs h ns = true → ∀ n ∈ ns, n < 4 := by
        intro ns
        induction ns with
        | nil => intro h _ n hn; cases hn
        | cons q ns ih =>
          intro h hok n hn
          simp only [okIs, Bool.and_eq_true] at hok
          rcases List.mem_cons.mp hn with rfl | hn
          · exact Nat.lt_of_succ_le (Nat.le_of_ble_eq_true hok.1.1)
          · exact ih hok.2 n hn
      exact this hokI
    obtain ⟨h6, h7⟩ := iosV_rel h2 hn4 hios
    refine ⟨_, h3, ?_, _, h6, ?_, fun hf => ?_, rs, ios, hk, rfl, rfl⟩
    · rw [h4]
      have hnsf : ns.map f = ns := by
        rw [List.map_congr_left (g := id) (fun n hn => h2.io n (hn4 n hn))]; simp
      rw [show ∀ l : List Nat, l ++ ns = l ++ ns.map f from fun l => by rw [hnsf], ← List.map_append]
      refine vop_call.List.Nodup.of_map_inj ?_ (nodupN_iff hnd)
      intro n m' hn hm he
      have lv : ∀ k, k ∈ ressN ven.ty (hup (hup vs.h (frzRs ven.ty vs.t vs.h rvs m)) (frzIs (hup vs.h (frzRs ven.ty vs.t vs.h rvs m)) ns)) vs.t rvs ++ ns → live (hget (hup (hup vs.h (frzRs ven.ty vs.t vs.h rvs m)) (frzIs (hup vs.h (frzRs ven.ty vs.t vs.h rvs m)) ns)) k) = true := by
        intro k hk
        rcases List.mem_append.mp hk with hk | hk
        · exact h5 k hk
        · exact h7 k hk
      exact h2.inj n m' (lv n hn) (lv m' hm) he
    · rw [← of_decide_eq_true hls]
      simp
    · subst hf
      simp only [Bool.not_true, Bool.false_or, allFlat, Bool.and_eq_true] at hflat
      refine ⟨fun r hr => ?_, fun c hc x hx => ?_⟩
      · obtain ⟨y, hy, rfl⟩ := List.mem_map.mp hr
        exact flat_rv (List.all_eq_true.mp hflat.1 y hy)
      · obtain ⟨y, hy, rfl⟩ := List.mem_map.mp hc
        obtain ⟨z, hz, rfl⟩ := List.mem_map.mp hx
        exact flat_vv (List.all_eq_true.mp (List.all_eq_true.mp hflat.2 y hy) z hz)
  cases e <;> first | exact key hk | exact hk.elim

/-! ### the beginning -/
def VA.ok : VA → Bool
  | .v T _ => T.ok
  | .io cells => cells.all fun c => c.1.ok && c.1.atom

theorem ioVA_eq : ∀ (i : Nat) (args : List VA), ioArgs i (args.map VA.av) = ioVA i args
  | _, [] => rfl
  | i, .v T x :: as => by
    have ih := ioVA_eq (i + 1) as
    cases T <;> exact ih
  | i, .io c :: as => by
    have ih := ioVA_eq (i + 1) as
    show i :: _ = i :: _
    rw [ih]
theorem ioLen_eq : ∀ (args : List VA), ioLens (args.map VA.av) = ioLen args
  | [] => rfl
  | .v T x :: as => by
    have ih := ioLen_eq as
    cases T <;> exact ih
  | .io c :: as => by
    have ih := ioLen_eq as
    show (c.map _).length :: _ = c.length :: _
    rw [List.length_map, ih]

theorem initVH_get : ∀ (args : List VA) (i n : Nat), hget (initVH i args) n = .free ∨ ∃ j c, n = i + j ∧ args[j]? = some (.io c) ∧ hget (initVH i args) n = .box (c.map vvTA)
  | [], i, n => .inl rfl
  | .v T x :: as, i, n => by
    rcases initVH_get as (i + 1) n with h | ⟨j, c, h1, h2, h3⟩
    · exact .inl h
    · exact .inr ⟨j + 1, c, by omega, by simpa using h2, h3⟩
  | .io c :: as, i, n => by
    simp only [initVH]
    rw [hget_cons]
    split
    · rename_i he; exact .inr ⟨0, c, by omega, by simp, rfl⟩
    · rcases initVH_get as (i + 1) n with h | ⟨j, c, h1, h2, h3⟩
      · exact .inl h
      · exact .inr ⟨j + 1, c, by omega, by simpa using h2, h3⟩
theorem initO_get : ∀ (args : List VA) (i j : Nat) (c : List VV), args[j]? = some (.io c) → initO i (args.map VA.av) (i + j) = some (.box ((c.map vvD).map .d))
  | [], i, j, c, h => by simp at h
  | .io c' :: as, i, 0, c, h => by
    simp at h; subst h
    show upd (initO (i + 1) (as.map VA.av)) i (some (.box ((c'.map vvD).map .d))) (i + 0) = _
    show (if i + 0 = i then _ else _) = _
    rw [if_pos (Nat.add_zero i)]
  | .io c' :: as, i, j + 1, c, h => by
    show upd (initO (i + 1) (as.map VA.av)) i (some (.box ((c'.map vvD).map .d))) (i + (j + 1)) = _
    rw [upd_ne _ _ (by omega), show i + (j + 1) = i + 1 + j by omega]
    exact initO_get as (i + 1) j c (by simpa using h)
  | .v T x :: as, i, 0, c, h => by simp at h
  | .v T x :: as, i, j + 1, c, h => by
    have ih := initO_get as (i + 1) j c (by simpa using h)
    have e1 : initO i ((VA.v T x :: as).map VA.av) = initO (i + 1) (as.map VA.av) := by cases T <;> rfl
    rw [e1, show i + (j + 1) = i + 1 + j by omega]
    exact ih
theorem initVT_get {h : VH} : ∀ (args : List VA) (i : Nat), (∀ a ∈ args, a.ok = true) → (∀ (j : Nat) c, args[j]? = some (.io c) → ∃ cs, hget h (i + j) = .box cs) →
    ∀ n v, lk (initVT i args) n = some v → ∃ j e, n = i + j ∧ (initT i (args.map VA.av))[j]? = some e ∧ relV h id v e
  | [], i, _, _, n, v, hv => by simp [initVT, lk] at hv
  | .v T x :: as, i, hok, hio, n, v, hv => by
    simp only [initVT] at hv
    rw [lk_cons] at hv
    have e1 : initT i ((VA.v T x :: as).map VA.av) = vE T x :: initT (i + 1) (as.map VA.av) := by cases T <;> rfl
    rw [e1]
    split at hv
    · rename_i he
      simp only [Option.some.injEq] at hv; subst hv
      exact ⟨0, _, by omega, by simp, hok (.v T x) (by simp), rfl⟩
    · obtain ⟨j, e, h1, h2, h3⟩ := initVT_get as (i + 1) (fun a ha => hok a (by simp [ha])) (fun j c hj => by
        obtain ⟨cs, h⟩ := hio (j + 1) c (by simpa using hj)
        exact ⟨cs, by rw [← h]; congr 1; omega⟩) n v hv
      exact ⟨j + 1, e, by omega, by simpa using h2, h3⟩
  | .io c :: as, i, hok, hio, n, v, hv => by
    simp only [initVT] at hv
    rw [lk_cons] at hv
    have e1 : initT i ((VA.io c :: as).map VA.av) = .ptr i 0 0 :: initT (i + 1) (as.map VA.av) := rfl
    rw [e1]
    split at hv
    · rename_i he
      simp only [Option.some.injEq] at hv; subst hv
      obtain ⟨cs, hcs⟩ := hio 0 c (by simp)
      refine ⟨0, .ptr i 0 0, by omega, by simp, ?_⟩
      simp only [relV, relA]
      rw [show hget h i = .box cs from hcs]
      simp
    · obtain ⟨j, e, h1, h2, h3⟩ := initVT_get as (i + 1) (fun a ha => hok a (by simp [ha])) (fun j c hj => by
        obtain ⟨cs, h⟩ := hio (j + 1) c (by simpa using hj)
        exact ⟨cs, by rw [← h]; congr 1; omega⟩) n v hv
      exact ⟨j + 1, e, by omega, by simpa using h2, h3⟩
theorem initVH_io : ∀ (args : List VA) (i j : Nat) (c : List VV), args[j]? = some (.io c) → hget (initVH i args) (i + j) = .box (c.map vvTA)
  | [], i, j, c, h => by simp at h
  | .io c' :: as, i, 0, c, h => by
    simp at h; subst h
    simp only [initVH]; rw [hget_cons, if_pos (by omega)]
  | .io c' :: as, i, j + 1, c, h => by
    simp only [initVH]; rw [hget_ne _ _ (by omega), show i + (j + 1) = i + 1 + j by omega]
    exact initVH_io as (i + 1) j c (by simpa using h)
  | .v T x :: as, i, 0, c, h => by simp at h
  | .v T x :: as, i, j + 1, c, h => by
    rw [show i + (j + 1) = i + 1 + j by omega]
    exact initVH_io as (i + 1) j c (by simpa using h)
theorem initT_len : ∀ (i : Nat) (args : List AV), (initT i args).length = args.length
  | _, [] => rfl
  | i, a :: as => by simp [initT, initT_len (i + 1) as]

theorem vinit_rel {args : List VA} (hok : ∀ a ∈ args, a.ok = true) (hnt : args.length ≤ nt) : Rel nt id (vinit args) (initSt nt (args.map VA.av)) ∧ Top (vinit args) := by
  have hl : ∀ (n : Nat) j c, n = 0 + j → args[j]? = some (VA.io c) → j < args.length := fun n j c _ h => (List.getElem?_eq_some_iff.mp h).1
  refine ⟨⟨?_, ?_, ?_, fun n m _ _ he => he, fun n _ => rfl, Nat.le_max_left _ _⟩, Nat.le_max_left _ _, fun n hn => ?_⟩
  · intro i v hv
    obtain ⟨j, e, h1, h2, h3⟩ := initVT_get (h := initVH 0 args) args 0 hok (fun j c hj => ⟨_, initVH_io args 0 j c hj⟩) i v hv
    have hij : i = j := by omega
    subst hij
    refine ⟨e, ?_, h3⟩
    simp only [initSt]
    rw [List.getElem?_append_left (List.getElem?_eq_some_iff.mp h2).1]
    exact h2
  · simp only [initSt, List.length_append, initT_len, List.length_replicate, List.length_map]
    omega
  · intro n
    show relS (initVH 0 args) id (initSt nt (args.map VA.av)) n (hget (initVH 0 args) n)
    rcases initVH_get args 0 n with h | ⟨j, c, h1, h2, h3⟩
    · rw [h]; trivial
    · rw [h3]
      have hj := hl n j c h1 h2
      refine ⟨?_, _, ?_, vvTAs_rel fun x hx => ?_⟩
      · simp only [initSt, id, List.length_map]; omega
      · have := initO_get args 0 j c h2
        simp only [initSt, id]
        rw [h1]; exact this
      · have := hok _ (List.mem_of_getElem? h2)
        have := List.all_eq_true.mp this x hx
        simpa using this
  · have hn' : max 4 args.length ≤ n := hn
    rcases initVH_get args 0 n with h | ⟨j, c, h1, h2, h3⟩
    · exact h
    · have hj := hl n j c h1 h2
      omega

/-- A CONTRACT, OUT OF A TYPED EVALUATION. -/
theorem vCon (HP : TIok ren.P ren.ti) (hm : ren.P.follows .mixedOrders = true) (H : VOk ven ren) {g : FuncId} {fn : Func} {body : Code} {args : List VA} {an : Ann} {post : List VR → List (List VV) → Prop} {m : List Bool}
    (hf : ren.P.funcs[g]? = some fn) (hb : fn.body = some body) (hname : (fn.name == "runtime.NumGoroutine") = false)
    (hok : args.all VA.ok = true) (hnt : args.length ≤ fn.ntmps) (h4 : (ioVA 0 args).all (fun n => decide (n < 4)) = true)
    (hk : vwp ven fn.ntmps body an (vfin ven.ty (ren.fr g) fn.results.toList m (ioVA 0 args) (ioLen args) post) (vinit args)) :
    Con ren.P ren.W0 g (ren.fr g) (args.map VA.av) (fun rs ios => ∃ vrs vios, post vrs vios ∧ rs = vrs.map VR.rv ∧ ios = vios.map fun c => c.map vvD) := by
  refine Con.mkW (en := ren) HP hm m (by rw [ioVA_eq]; exact h4) hf hb hname ?_
  intro G w0 io a w β hW hio hio4 hs
  obtain ⟨hR, hT⟩ := vinit_rel (nt := fn.ntmps) (args := args) (fun a ha => List.all_eq_true.mp hok a ha) hnt
  refine wp_mono (vwp_sound HP H hW hio hio4 hm body hs hR hT hk) ?_
  rintro e a w ⟨vs, f, st, β, h1, h2, _, h3⟩
  refine ⟨st, β, ?_, h3⟩
  rw [ioVA_eq, ioLen_eq]
  exact vfin_rel H h2 h1
end Go.RX

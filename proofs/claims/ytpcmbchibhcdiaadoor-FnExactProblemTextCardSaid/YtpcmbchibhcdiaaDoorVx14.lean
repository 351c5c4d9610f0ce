/- VX, part 14: a state told by a shape. -/
import Derived.Test.YtpcmbchibhcdiaaDoorVx13
namespace Go.RX
open Go

variable {nt : Nat} {f : Nat → Nat} {vs : VSt} {st : St}

/-! ### nil slices -/
theorem EVRs.weaken {c : Cx} {e e' : EV} (hw : ∀ v, EVR c e v → EVR c e' v) : ∀ {es : List EV} {vs : List Value} {i : Nat}, EVRs c es vs → es[i]? = some e → EVRs c (es.set i e') vs
  | [], [], i, h, he => by simp at he
  | x :: es, v :: vs, 0, h, he => by
    simp only [EVRs] at h
    simp at he; subst he
    simp only [List.set_cons_zero, EVRs]
    exact ⟨hw v h.1, h.2⟩
  | x :: es, v :: vs, i + 1, h, he => by
    simp only [EVRs] at h
    simp only [List.set_cons_succ, EVRs]
    exact ⟨h.1, EVRs.weaken hw h.2 (by simpa using he)⟩
  | [], _ :: _, _, h, _ => by simp [EVRs] at h
  | _ :: _, [], _, h, _ => by simp [EVRs] at h

theorem nilD_le {i sz : Nat} (he : st.t[i]? = some (.nil sz)) : st.Le { st with t := st.t.set i (.d (.sl sz [])) } := by
  intro G w0 io a w β _ h
  refine ⟨β, ?_⟩
  exact { h with tmps := EVRs.weaken (fun v hv => by simp only [EVR] at hv ⊢; obtain ⟨ad, rfl⟩ := hv; exact .nil ad 0 sz) h.tmps he }

theorem nilO_le {i sz : Nat} (he : st.t[i]? = some (.nil sz)) : st.Le { (st.add (.arr sz [])) with t := st.t.set i (.own st.nx 0 0) } := by
  intro G w0 io a w β _ h
  have h1 := new0_rel h sz
  refine ⟨upd β st.nx none, ?_⟩
  exact { h1 with tmps := EVRs.weaken (fun v hv => by
    simp only [EVR] at hv
    obtain ⟨ad, rfl⟩ := hv
    exact own0_evr (sz := sz) (by simp [cxOf, St.add, upd_same]) (upd_same _ _ _) (by simp [cxOf, St.add]) ad) h1.tmps he }

theorem Rel.tset (h : Rel nt f vs st) {d : Tmp} (hd : d < nt) {v : TV} {e : EV} (hv : relV vs.h f v e) {nx : Nat} : Rel nt f ⟨(d, v) :: vs.t, vs.h, nx⟩ { st with t := st.t.set d e } := Rel.put h hd hv

theorem Top.new (ht : Top vs) {t : VT} {s : Slot} : Top ⟨t, (vs.nx, s) :: vs.h, vs.nx + 1⟩ := by
  refine ⟨Nat.le_succ_of_le ht.four, fun n hn => ?_⟩
  have hn' : vs.nx + 1 ≤ n := hn
  show hget ((vs.nx, s) :: vs.h) n = .free
  rw [hget_ne _ _ (by omega)]
  exact ht.free n (by omega)

theorem nilFix1_rel (h : Rel nt f vs st) (ht : Top vs) (i : Nat) (sa : SA) : ∃ f' st', st.Le st' ∧ Rel nt f' (nilFix1 vs i sa (lk vs.t i)) st' ∧ Top (nilFix1 vs i sa (lk vs.t i)) := by
  have same : ∃ f' st', st.Le st' ∧ Rel nt f' vs st' ∧ Top vs := ⟨f, st, St.Le.refl st, h, ht⟩
  unfold nilFix1
  split
  · rename_i r hl
    obtain ⟨e, he, hr⟩ := h.t i _ hl
    obtain ⟨hok, rfl⟩ := hr
    have hi : i < nt := by rw [← h.nt]; exact (List.getElem?_eq_some_iff.mp he).1
    have hR : Rel nt (fun m => if m = vs.nx then st.nx else f m) ⟨vs.t, (vs.nx, .arr r [] false) :: vs.h, vs.nx⟩ (st.add (.arr r.w [])) :=
      h.new (ob := .arr r.w []) (ht.free _ (Nat.le_refl _)) ht.four (s := .arr r [] false) rfl ⟨hok, rfl⟩
    split
    · refine ⟨fun m => if m = vs.nx then st.nx else f m, _, nilO_le he, ?_, ht.new⟩
      refine Rel.tset hR hi (v := .a (.own vs.nx none)) (e := .own st.nx 0 0) ?_
      simp only [relV, relA, hget_same]
      simp [segIn, segOff, segLen]
    · refine ⟨fun m => if m = vs.nx then st.nx else f m, _, nilO_le he, ?_, ht.new⟩
      refine Rel.tset hR hi (v := .a (.own vs.nx (some (0, 0)))) (e := .own st.nx 0 0) ?_
      simp only [relV, relA, hget_same]
      simp [segIn, segOff, segLen]
    · refine ⟨f, _, nilD_le he, ?_, ⟨ht.four, ht.free⟩⟩
      exact Rel.tset h hi (v := .a (.v (.sl r) ([] : List r.den))) (e := .d (.sl r.w [])) ⟨by simpa [Ty.ok] using hok, rfl⟩
    · exact same
  · exact same

theorem nilFix_rel : ∀ {l : List (Nat × SA)} {f : Nat → Nat} {vs : VSt} {st : St}, Rel nt f vs st → Top vs → ∃ f' st', st.Le st' ∧ Rel nt f' (nilFix l vs) st' ∧ Top (nilFix l vs)
  | [], f, vs, st, h, ht => ⟨f, st, St.Le.refl st, h, ht⟩
  | p :: l, f, vs, st, h, ht => by
    obtain ⟨f1, st1, h1, h2, h3⟩ := nilFix1_rel h ht p.1 p.2
    obtain ⟨f2, st2, h4, h5, h6⟩ := nilFix_rel (l := l) h2 h3
    exact ⟨f2, st2, h1.trans h4, h5, h6⟩

/-! ### other names -/
/-- the slot of a shape, and that of the state -/
def slotSame : Slot → Slot → Prop
  | .arr T rows frz, s => s = .arr T rows frz
  | .box _, .box _ => True
  | _, _ => False
def MapR (mp : SMap) (h hE : VH) (f f' : Nat → Nat) : Prop := ∀ p ∈ mp, f' p.1 = f p.2 ∧ slotSame (hget hE p.1) (hget h p.2)

theorem own_ren {h hE : VH} {f' : Nat → Nat} {n m : Nat} (hf : f' n = f m) (hs : slotSame (hget hE n) (hget h m)) {sg : Option (Int × Int)} {e : EV} (hr : relA h f (.own m sg) e) : relA hE f' (.own n sg) e := by
  simp only [relA] at hr ⊢
  cases hh : hget hE n with
  | free => rw [hh] at hs; exact hs.elim
  | gone => rw [hh] at hs; exact hs.elim
  | box c =>
    rw [hh] at hs
    cases hm : hget h m with
    | box c' => rw [hm] at hr; exact hr.elim
    | _ => rw [hm] at hs; exact hs.elim
  | arr T rows fz =>
    rw [hh] at hs
    rw [show hget h m = .arr T rows fz from hs] at hr
    exact ⟨hr.1, hr.2.1, fun hz => by rw [hf]; exact hr.2.2 hz⟩
theorem ptr_ren {h hE : VH} {f' : Nat → Nat} {n m : Nat} (hf : f' n = f m) (hs : slotSame (hget hE n) (hget h m)) {row : Int} {k : Nat} {e : EV} (hr : relA h f (.ptr m row k) e) : relA hE f' (.ptr n row k) e := by
  simp only [relA] at hr ⊢
  cases hh : hget hE n with
  | free => rw [hh] at hs; exact hs.elim
  | gone => rw [hh] at hs; exact hs.elim
  | box c =>
    rw [hh] at hs
    cases hm : hget h m with
    | box c' => rw [hm] at hr; exact ⟨hr.1, by rw [hf]; exact hr.2⟩
    | _ => rw [hm] at hs; exact hs.elim
  | arr T rows fz =>
    rw [hh] at hs
    rw [show hget h m = .arr T rows fz from hs] at hr
    exact ⟨hr.1, hr.2.1, fun hz => by rw [hf]; exact hr.2.2 hz⟩

theorem decV_ext {h : VH} {T : Ty} {a : TA} {K : T.den → Prop} (hk : decV h T a K) {e : EV} (hr : relA h f a e) (hok : isArr (.arr T [] false) = true) :
    ∃ x, K x ∧ (∀ K' : T.den → Prop, K' x → decV h T a K') ∧ e = vE T x ∧ (T.ok = true ∨ ∃ n sg, a = .own n sg) := by
  cases a with
  | v T' x =>
    obtain ⟨he, h1, h2⟩ := castD_ext (show castD (T := T') (T' := T) x K from hk)
    subst he
    obtain ⟨h3, h4⟩ := hr
    exact ⟨x, h1, h2, h4, .inl h3⟩
  | own n sg =>
    cases T <;> first | exact hk.elim | skip
    rename_i r
    obtain ⟨rows, hs, h1, h2⟩ := ownD_ext (show ownD r sg K (hget h n) from hk)
    simp only [relA] at hr
    rw [hs] at hr
    exact ⟨_, h1, h2, hr.2.1 rfl, .inr ⟨n, sg, rfl⟩⟩
  | dead => exact hk.elim
  | nilS _ => exact hk.elim
  | ptr _ _ _ => exact hk.elim
  | rptr _ _ _ => exact hk.elim
  | fn _ => exact hk.elim

/-- one value -/
theorem SA.dec_ext (h : Rel nt f vs st) {hE : VH} {f' : Nat → Nat} {R : Type} {sa : SA} {b : TA} {K : (R → sa.den R) → Prop} (hk : sa.dec vs.h b K) {e : EV} (hr : relA vs.h f b e) :
    ∃ g : R → sa.den R, K g ∧ (∀ K' : (R → sa.den R) → Prop, K' g → sa.dec vs.h b K') ∧ (∀ r, sa.rest (g r) = r) ∧
      (MapR (srcTA sa b) vs.h hE f f' → ∀ r, relA hE f' (sa.enc (g r)) e) := by
  cases sa with
  | dead => cases b <;> exact hk.elim
  | v T =>
    obtain ⟨x, h1, h2, h3, h4⟩ := decV_ext (show decV vs.h T b (fun x => K fun r => (x, r)) from hk) hr rfl
    refine ⟨fun r => (x, r), h1, fun K' hk => h2 _ hk, fun r => rfl, fun _ r => ⟨?_, h3⟩⟩
    rcases h4 with h4 | ⟨n, sg, rfl⟩
    · exact h4
    · cases T with
      | sl r' =>
        obtain ⟨rows, hs, _, _⟩ := ownD_ext (show ownD r' sg _ (hget vs.h n) from hk)
        have := relS.ok h hs
        simpa [Ty.ok] using this
      | _ => exact hk.elim
  | nilS r =>
    cases b <;> first | exact hk.elim | skip
    rename_i r'
    have hk' := chk_iff.mp (show chk (decide (r' = r)) (K fun r => r) from hk)
    have := of_decide_eq_true hk'.1
    subst this
    exact ⟨fun r => r, hk'.2, fun K' hk => chk_iff.mpr ⟨hk'.1, hk⟩, fun r => rfl, fun _ _ => hr⟩
  | own n =>
    cases b <;> first | exact hk.elim | skip
    rename_i m sg
    cases sg with
    | some p => exact hk.elim
    | none =>
      refine ⟨fun r => r, hk, fun K' hk => hk, fun r => rfl, fun hm r => ?_⟩
      obtain ⟨h1, h2⟩ := hm (n, m) (by simp [srcTA])
      exact own_ren h1 h2 hr
  | seg n =>
    cases b <;> first | exact hk.elim | skip
    rename_i m sg
    cases sg with
    | some p =>
      refine ⟨fun r => (p, r), hk, fun K' hk => hk, fun r => rfl, fun hm r => ?_⟩
      obtain ⟨h1, h2⟩ := hm (n, m) (by simp [srcTA])
      exact own_ren h1 h2 hr
    | none =>
      have hk' : segOfRows K (hget vs.h m) := hk
      unfold segOfRows at hk'
      split at hk'
      · rename_i T rows fz hs
        refine ⟨fun r => ((0, llen rows), r), hk', fun K' hk => ?_, fun r => rfl, fun hm r => ?_⟩
        · show segOfRows K' (hget vs.h m)
          rw [hs]; exact hk
        · obtain ⟨h1, h2⟩ := hm (n, m) (by simp [srcTA])
          have hr2 : relA vs.h f (.own m (some (0, llen rows))) e := by
            simp only [relA] at hr ⊢
            rw [hs] at hr ⊢
            obtain ⟨_, h3, h4⟩ := hr
            have e1 : segOf rows (some (0, llen rows)) = rows := by simp [segOf, Go.RX.seg, llen]
            refine ⟨by simp [segIn, llen], fun hz => by rw [e1]; exact h3 hz, fun hz => ?_⟩
            rw [h4 hz]; simp [segOff, segLen, llen]
          exact own_ren h1 h2 hr2
      · exact hk'.elim
  | ptr n k =>
    cases b <;> first | exact hk.elim | skip
    rename_i m row k'
    have hk' := chk_iff.mp (show chk (Nat.beq k k') (K fun r => (row, r)) from hk)
    have := Nat.eq_of_beq_eq_true hk'.1
    subst this
    refine ⟨fun r => (row, r), hk'.2, fun K' hk => chk_iff.mpr ⟨hk'.1, hk⟩, fun r => rfl, fun hm r => ?_⟩
    obtain ⟨h1, h2⟩ := hm (n, m) (by simp [srcTA])
    exact ptr_ren h1 h2 hr
  | ptr0 n k =>
    cases b <;> first | exact hk.elim | skip
    rename_i m row k'
    have hk' := chk_iff.mp (show chk (Nat.beq k k' && isBox (hget vs.h m)) (K fun r => r) from hk)
    obtain ⟨hc1, hc2⟩ := Bool.and_eq_true_iff.mp hk'.1
    have := Nat.eq_of_beq_eq_true hc1
    subst this
    refine ⟨fun r => r, hk'.2, fun K' hk => chk_iff.mpr ⟨hk'.1, hk⟩, fun r => rfl, fun hm r => ?_⟩
    obtain ⟨h1, h2⟩ := hm (n, m) (by simp [srcTA])
    have h3 := ptr_ren h1 h2 hr
    have : row = 0 := by
      simp only [relA] at hr
      unfold isBox at hc2
      split at hc2
      · rename_i cells hs; rw [hs] at hr; exact hr.1
      · simp at hc2
    rw [this] at h3
    exact h3
  | rptr T k =>
    cases b <;> first | exact hk.elim | skip
    rename_i T' x k'
    have hk' := chk_iff.mp (show chk (Nat.beq k k') (castD (T := T') (T' := T) x fun x => K fun r => (x, r)) from hk)
    have := Nat.eq_of_beq_eq_true hk'.1
    subst this
    obtain ⟨he, h1, h2⟩ := castD_ext hk'.2
    subst he
    exact ⟨fun r => (x, r), h1, fun K' hk => chk_iff.mpr ⟨hk'.1, h2 _ hk⟩, fun r => rfl, fun _ _ => hr⟩
  | fn g =>
    cases b <;> first | exact hk.elim | skip
    rename_i g'
    have hk' := chk_iff.mp (show chk (Nat.beq g g') (K fun r => r) from hk)
    have := Nat.eq_of_beq_eq_true hk'.1
    subst this
    exact ⟨fun r => r, hk'.2, fun K' hk => chk_iff.mpr ⟨hk'.1, hk⟩, fun r => rfl, fun _ _ => hr⟩

theorem MapR.left {m1 m2 : SMap} {h hE : VH} {f' : Nat → Nat} (hm : MapR (m1 ++ m2) h hE f f') : MapR m1 h hE f f' := fun p hp => hm p (by simp [hp])
theorem MapR.right {m1 m2 : SMap} {h hE : VH} {f' : Nat → Nat} (hm : MapR (m1 ++ m2) h hE f f') : MapR m2 h hE f f' := fun p hp => hm p (by simp [hp])

theorem tDec_ext (h : Rel nt f vs st) {hE : VH} {f' : Nat → Nat} : ∀ {l : List (Nat × SA)} {K : tDen l → Prop}, tDec vs.h vs.t l K →
    ∃ x, K x ∧ (∀ K' : tDen l → Prop, K' x → tDec vs.h vs.t l K') ∧ (MapR (srcT vs.t l) vs.h hE f f' → ∀ i v, lk (tEnc l x) i = some v → ∃ e, st.t[i]? = some e ∧ relV hE f' v e)
  | [], K, hk => ⟨(), hk, fun K' hk => hk, fun _ i v hv => by simp [tEnc, lk] at hv⟩
  | p :: l, K, hk => by
    -- the value that stands there
    cases hl : lk vs.t p.1 with
    | none =>
      have hk' : p.2.dec vs.h (tvA (lk vs.t p.1)) (fun g => tDec vs.h vs.t l fun r => K (g r)) := hk
      rw [hl] at hk'
      exfalso
      have : ∀ (sa : SA) (K : (tDen l → sa.den (tDen l)) → Prop), sa.dec vs.h .dead K → False := fun sa K hk => by cases sa <;> exact hk
      exact this _ _ hk'
    | some v0 =>
      obtain ⟨e, he, hr0⟩ := h.t p.1 _ hl
      have hk' : p.2.dec vs.h (tvA (lk vs.t p.1)) (fun g => tDec vs.h vs.t l fun r => K (g r)) := hk
      have hr : relA vs.h f (tvA (lk vs.t p.1)) e := by
        rw [hl]
        cases v0 with
        | a x => exact hr0
        | tup xs => trivial
      obtain ⟨g, h1, h2, h3, h4⟩ := SA.dec_ext (hE := hE) (f' := f') h hk' hr
      obtain ⟨x, h5, h6, h7⟩ := tDec_ext h h1
      refine ⟨g x, h5, fun K' hk => h2 _ (h6 _ hk), fun hm i v hv => ?_⟩
      have hm1 : MapR (srcTA p.2 (tvA (lk vs.t p.1))) vs.h hE f f' := hm.left
      have hm2 : MapR (srcT vs.t l) vs.h hE f f' := hm.right
      simp only [tEnc] at hv
      rw [lk_cons] at hv
      split at hv
      · rename_i heq
        subst heq
        simp only [Option.some.injEq] at hv
        subst hv
        exact ⟨e, he, h4 hm1 x⟩
      · rw [h3] at hv
        exact h7 hm2 i v hv

theorem cDec_ext (h : Rel nt f vs st) {hE : VH} {f' : Nat → Nat} : ∀ {l : List SA} {bs : List TA} {es : List EV} {K : cDen l → Prop}, All2 (relA vs.h f) bs es → cDec vs.h l bs K →
    ∃ x, K x ∧ (∀ K' : cDen l → Prop, K' x → cDec vs.h l bs K') ∧ (MapR (srcC l bs) vs.h hE f f' → All2 (relA hE f') (cEnc l x) es)
  | [], [], [], K, _, hk => ⟨(), hk, fun K' hk => hk, fun _ => trivial⟩
  | a :: l, b :: bs, e :: es, K, hr, hk => by
    obtain ⟨g, h1, h2, h3, h4⟩ := SA.dec_ext (hE := hE) (f' := f') h (show a.dec vs.h b (fun g => cDec vs.h l bs fun r => K (g r)) from hk) hr.1
    obtain ⟨x, h5, h6, h7⟩ := cDec_ext h hr.2 h1
    refine ⟨g x, h5, fun K' hk => h2 _ (h6 _ hk), fun hm => ?_⟩
    have hm1 : MapR (srcTA a b) vs.h hE f f' := hm.left
    have hm2 : MapR (srcC l bs) vs.h hE f f' := hm.right
    refine ⟨h4 hm1 x, ?_⟩
    rw [h3]
    exact h7 hm2
  | [], _ :: _, _, _, _, hk => hk.elim
  | _ :: _, [], _, _, _, hk => hk.elim
  | [], [], _ :: _, _, h, _ => h.elim
  | _ :: _, _ :: _, [], _, h, _ => h.elim
end Go.RX

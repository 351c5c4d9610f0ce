/- VX, part 6: values, told cell by cell. -/
import Derived.Test.YtpcmbchibhcdiaaDoorVx5
namespace Go.RX
open Go

variable {nt : Nat} {f : Nat → Nat} {vs : VSt} {st : St}

theorem grd_ext {b : Bool} {p : Prop} (h : grd b p) : b = true ∧ p := grd_iff.mp h
theorem castD_ext {T T' : Ty} {x : T.den} {K : T'.den → Prop} (h : castD x K) : ∃ he : T = T', K (he ▸ x) ∧ ∀ K' : T'.den → Prop, K' (he ▸ x) → castD x K' := by
  unfold castD at h
  split at h
  · rename_i he
    exact ⟨he, h, fun K' hk => by unfold castD; rw [dif_pos he]; exact hk⟩
  · exact h.elim

theorem vE_atom {T : Ty} (h : T.atom = true) (x : T.den) : ∃ d, vE T x = .d d ∧ T.cells x = [d] := by
  cases T <;> first | exact ⟨_, rfl, rfl⟩ | simp [Ty.atom] at h
theorem vE_cells {T : Ty} (x : T.den) : cellsOf (vE T x) = some (T.cells x) := by cases T <;> rfl

theorem toB_cell {n : Int} (h : idx n 256 = true) : Ty.cells .byte (toB n) = [.im (.int .u8 n)] := by
  simp only [idx_eq, Bool.and_eq_true, decide_eq_true_eq] at h
  simp only [Ty.cells, toB]
  have : (UInt8.ofNat n.toNat).toNat = n.toNat := by simp; omega
  rw [this, Int.toNat_of_nonneg h.1]

theorem ownD_ext {T : Ty} {sg : Option (Int × Int)} {K : List T.den → Prop} {s : Slot} (h : ownD T sg K s) :
    ∃ rows : List T.den, s = .arr T rows true ∧ K (segOf rows sg) ∧ ∀ K' : List T.den → Prop, K' (segOf rows sg) → ownD T sg K' s := by
  unfold ownD at h
  split at h
  · rename_i T' rows
    obtain ⟨he, hk, hx⟩ := castD_ext h
    have he' : T' = T := by injection he
    subst he'
    exact ⟨rows, rfl, hk, fun K' hk => hx K' hk⟩
  · exact h.elim

theorem byteV_ext {T : Ty} {x : T.den} {K : UInt8 → Prop} (hk : byteV T x K) : ∃ b : UInt8, K b ∧ (∀ K', K' b → byteV T x K') ∧ vE T x = .d (.im (.int .u8 (b.toNat : Int))) := by
  unfold byteV at hk
  split at hk
  · rename_i n
    obtain ⟨h1, hk⟩ := grd_iff.mp hk
    refine ⟨_, hk, fun K' hk => grd_iff.mpr ⟨h1, hk⟩, ?_⟩
    have := toB_cell h1
    simp only [Ty.cells, List.cons.injEq, and_true] at this
    rw [this]; rfl
  · exact hk.elim
theorem asV_ext {T T' : Ty} {x : T'.den} {K : T.den → Prop} (hk : asV T' x T K) : ∃ y d, K y ∧ (∀ K' : T.den → Prop, K' y → asV T' x T K') ∧ T.cells y = [d] ∧ vE T' x = .d d := by
  have cst : ∀ {T : Ty} {K : T.den → Prop}, T.atom = true → castD (T := T') (T' := T) x K → ∃ y d, K y ∧ (∀ K' : T.den → Prop, K' y → castD (T := T') (T' := T) x K') ∧ T.cells y = [d] ∧ vE T' x = .d d := by
    intro T K hT hk
    obtain ⟨he, hk, hx⟩ := castD_ext hk
    subst he
    obtain ⟨d, h1, h2⟩ := vE_atom hT x
    exact ⟨x, d, hk, hx, h2, h1⟩
  cases T with
  | byte =>
    obtain ⟨b, h1, h2, h3⟩ := byteV_ext hk
    exact ⟨b, _, h1, h2, rfl, h3⟩
  | cons _ _ => exact hk.elim
  | int k => exact cst rfl hk
  | bool => exact cst rfl hk
  | str => exact cst rfl hk
  | sl r => exact cst rfl hk

theorem asD_rel {h : VH} {T : Ty} {a : TA} {K : T.den → Prop} (hk : asD h T a K) {e : EV} (hr : relA h f a e) :
    ∃ x d, K x ∧ (∀ K' : T.den → Prop, K' x → asD h T a K') ∧ T.cells x = [d] ∧ cellD e = some d := by
  cases a with
  | v T' x =>
    obtain ⟨y, d, h1, h2, h3, h4⟩ := asV_ext hk
    obtain ⟨_, rfl⟩ := hr
    exact ⟨y, d, h1, h2, h3, by rw [h4]; rfl⟩
  | nilS r' =>
    obtain ⟨_, rfl⟩ := hr
    cases T <;> first | exact hk.elim | skip
    rename_i r
    have hk' : chk (decide (r' = r)) (K ([] : List r.den)) := hk
    rw [chk_iff] at hk'
    obtain ⟨h1, hk⟩ := hk'
    have h1' : r' = r := of_decide_eq_true h1
    subst h1'
    exact ⟨([] : List r'.den), _, hk, fun K' hk => show chk _ _ from chk_iff.mpr ⟨h1, hk⟩, rfl, rfl⟩
  | own n sg =>
    cases T <;> first | exact hk.elim | skip
    rename_i r
    obtain ⟨rows, hs, hk, hx⟩ := ownD_ext (show ownD r sg K (hget h n) from hk)
    simp only [relA] at hr
    rw [hs] at hr
    exact ⟨_, _, hk, fun K' hk => hx K' hk, rfl, by rw [hr.2.1 rfl]; rfl⟩
  | dead => exact hk.elim
  | ptr _ _ _ => exact hk.elim
  | rptr _ _ _ => exact hk.elim
  | fn _ => exact hk.elim

theorem cellD_cellsOf {e : EV} {d : D} (h : cellD e = some d) : cellsOf e = some [d] := by
  cases e <;> simp [cellD] at h <;> subst h <;> rfl

theorem rowD_rel {h : VH} {T : Ty} {a : TA} {K : T.den → Prop} (hk : rowD h T a K) {e : EV} (hr : relA h f a e) :
    ∃ x, K x ∧ (∀ K' : T.den → Prop, K' x → rowD h T a K') ∧ cellsOf e = some (T.cells x) := by
  have atm : ∀ {T : Ty} {K : T.den → Prop}, asD h T a K → ∃ x, K x ∧ (∀ K' : T.den → Prop, K' x → asD h T a K') ∧ cellsOf e = some (T.cells x) := by
    intro T K hk
    obtain ⟨x, d, h1, h2, h3, h4⟩ := asD_rel hk hr
    exact ⟨x, h1, h2, by rw [h3]; exact cellD_cellsOf h4⟩
  cases T with
  | cons g r =>
    cases a with
    | v T' x =>
      obtain ⟨he, h1, h2⟩ := castD_ext (show castD (T := T') (T' := .cons g r) x K from hk)
      subst he
      obtain ⟨_, rfl⟩ := hr
      exact ⟨x, h1, h2, vE_cells x⟩
    | _ => exact hk.elim
  | int k => exact atm hk
  | bool => exact atm hk
  | str => exact atm hk
  | byte => exact atm hk
  | sl r => exact atm hk

theorem setF_rel {h : VH} {a : TA} {e : EV} (hr : relA h f a e) : ∀ {T : Ty} (_ : T.ok = true) {x : T.den} {i : Nat} {K : T.den → Prop}, setF h T x i a K →
    ∃ y d, K y ∧ (∀ K' : T.den → Prop, K' y → setF h T x i a K') ∧ cellD e = some d ∧ i < T.w ∧ T.cells y = (T.cells x).set i d
  | .cons g r, hok, x, 0, K, hk => by
    simp only [Ty.ok, Bool.and_eq_true] at hok
    obtain ⟨y, d, h1, h2, h3, h4⟩ := asD_rel (show asD h g a (fun y => K (y, x.2)) from hk) hr
    obtain ⟨d0, _, h5⟩ := vE_atom hok.1.1 x.1
    refine ⟨(y, x.2), d, h1, fun K' hk => h2 _ hk, h4, by simp [Ty.w], ?_⟩
    simp [Ty.cells, h3, h5]
  | .cons g r, hok, x, i + 1, K, hk => by
    simp only [Ty.ok, Bool.and_eq_true] at hok
    obtain ⟨y, d, h1, h2, h3, h4, h5⟩ := setF_rel hr hok.2 (show setF h r x.2 i a (fun y => K (x.1, y)) from hk)
    obtain ⟨d0, _, h6⟩ := vE_atom hok.1.1 x.1
    refine ⟨(x.1, y), d, h1, fun K' hk => h2 _ hk, h3, by simp only [Ty.w]; omega, ?_⟩
    simp [Ty.cells, h5, h6]
  | .int k, hok, x, 0, K, hk => by
    obtain ⟨y, d, h1, h2, h3, h4⟩ := asD_rel (show asD h (.int k) a K from hk) hr
    exact ⟨y, d, h1, h2, h4, by simp [Ty.w], by rw [h3]; rfl⟩
  | .bool, hok, x, 0, K, hk => by
    obtain ⟨y, d, h1, h2, h3, h4⟩ := asD_rel (show asD h .bool a K from hk) hr
    exact ⟨y, d, h1, h2, h4, by simp [Ty.w], by rw [h3]; rfl⟩
  | .str, hok, x, 0, K, hk => by
    obtain ⟨y, d, h1, h2, h3, h4⟩ := asD_rel (show asD h .str a K from hk) hr
    exact ⟨y, d, h1, h2, h4, by simp [Ty.w], by rw [h3]; rfl⟩
  | .byte, hok, x, 0, K, hk => by
    obtain ⟨y, d, h1, h2, h3, h4⟩ := asD_rel (show asD h .byte a K from hk) hr
    exact ⟨y, d, h1, h2, h4, by simp [Ty.w], by rw [h3]; rfl⟩
  | .sl r, hok, x, 0, K, hk => by
    obtain ⟨y, d, h1, h2, h3, h4⟩ := asD_rel (show asD h (.sl r) a K from hk) hr
    exact ⟨y, d, h1, h2, h4, by simp [Ty.w], by rw [h3]; rfl⟩
  | .int _, _, _, _ + 1, _, hk => hk.elim
  | .bool, _, _, _ + 1, _, hk => hk.elim
  | .str, _, _, _ + 1, _, hk => hk.elim
  | .byte, _, _, _ + 1, _, hk => hk.elim
  | .sl _, _, _, _ + 1, _, hk => hk.elim

/-- parts with the same places -/
def relP (h : VH) (f : Nat → Nat) (p : Nat × TA) (q : Nat × EV) : Prop := p.1 = q.1 ∧ relA h f p.2 q.2

theorem fillV_rel {h : VH} {T : Ty} (hok : T.ok = true) : ∀ {ps : List (Nat × TA)} {qs : List (Nat × EV)} {x : T.den} {K : T.den → Prop}, All2 (relP h f) ps qs → fillV h T ps x K →
    ∃ y, K y ∧ (∀ K' : T.den → Prop, K' y → fillV h T ps x K') ∧ fillRows 1 ((T.cells x).map fun d => [d]) qs = some ((T.cells y).map fun d => [d])
  | [], [], x, K, _, hk => ⟨x, hk, fun _ h => h, rfl⟩
  | (i, a) :: ps, (j, e) :: qs, x, K, hr, hk => by
    obtain ⟨⟨hij, hae⟩, hr⟩ := hr
    simp only at hij hae
    subst hij
    obtain ⟨y, d, h1, h2, h3, h4, h5⟩ := setF_rel hae hok (show setF h T x i a (fun y => fillV h T ps y K) from hk)
    obtain ⟨z, h6, h7, h8⟩ := fillV_rel hok hr h1
    refine ⟨z, h6, fun K' hk => h2 (fun y => fillV h T ps y K') (h7 K' hk), ?_⟩
    simp only [fillRows, cellD_cellsOf h3, List.length_cons, List.length_nil, List.length_map, Ty.cells_len hok, h4, and_self, if_true]
    rw [← h8, h5, List.map_set]
  | [], _ :: _, _, _, h, _ => h.elim
  | _ :: _, [], _, _, h, _ => h.elim

theorem rowsV_rel {h : VH} {T : Ty} (hok : T.ok = true) {len : Nat} : ∀ {ps : List (Nat × TA)} {qs : List (Nat × EV)} {xs : List T.den} {K : List T.den → Prop}, xs.length = len → All2 (relP h f) ps qs → rowsV h T len ps xs K →
    ∃ ys : List T.den, K ys ∧ (∀ K' : List T.den → Prop, K' ys → rowsV h T len ps xs K') ∧ ys.length = len ∧ fillRows T.w (xs.map T.cells) qs = some (ys.map T.cells)
  | [], [], xs, K, hl, _, hk => ⟨xs, hk, fun _ h => h, hl, rfl⟩
  | (i, a) :: ps, (j, e) :: qs, xs, K, hl, hr, hk => by
    obtain ⟨⟨hij, hae⟩, hr⟩ := hr
    simp only at hij hae
    subst hij
    simp only [rowsV, chk_iff] at hk
    obtain ⟨hi, hk⟩ := hk
    have hi' : i < len := of_decide_eq_true hi
    obtain ⟨y, h1, h2, h3⟩ := rowD_rel hk hae
    obtain ⟨zs, h4, h5, h6, h7⟩ := rowsV_rel hok (by simpa using hl) hr h1
    refine ⟨zs, h4, fun K' hk => by simp only [rowsV, chk_iff]; exact ⟨hi, h2 (fun y => rowsV h T len ps (xs.set i y) K') (h5 K' hk)⟩, h6, ?_⟩
    simp only [fillRows, h3, List.length_map, Ty.cells_len hok, hl, hi', and_self, if_true]
    rw [← h7, List.map_set]
  | [], _ :: _, _, _, _, h, _ => h.elim
  | _ :: _, [], _, _, _, h, _ => h.elim

theorem packT_rel {h : VH} : ∀ {T : Ty} (_ : T.ok = true) {as : List TA} {es : List EV} {K : T.den → Prop}, All2 (relA h f) as es → packT h T as K →
    ∃ x, K x ∧ (∀ K' : T.den → Prop, K' x → packT h T as K') ∧ T.w ≤ es.length ∧ cellsD (es.take T.w) = some (T.cells x)
  | .cons g r, hok, a :: as, e :: es, K, hr, hk => by
    simp only [Ty.ok, Bool.and_eq_true] at hok
    obtain ⟨x, d, h1, h2, h3, h4⟩ := asD_rel (show asD h g a (fun x => packT h r as fun y => K (x, y)) from hk) hr.1
    obtain ⟨y, h5, h6, h7, h8⟩ := packT_rel hok.2 hr.2 h1
    refine ⟨(x, y), h5, fun K' hk => h2 (fun x => packT h r as fun y => K' (x, y)) (h6 _ hk), by simp [Ty.w]; exact h7, ?_⟩
    simp [Ty.w, cellsD, h4, h8, Ty.cells, h3]
  | .cons g r, _, [], _, _, _, hk => hk.elim
  | .cons g r, _, _ :: _, [], _, h, _ => h.elim
  | .int k, hok, a :: as, e :: es, K, hr, hk => packT_atom hr (show asD h (.int k) a K from hk) (fun K' hk => hk) rfl
  | .bool, hok, a :: as, e :: es, K, hr, hk => packT_atom hr (show asD h .bool a K from hk) (fun K' hk => hk) rfl
  | .str, hok, a :: as, e :: es, K, hr, hk => packT_atom hr (show asD h .str a K from hk) (fun K' hk => hk) rfl
  | .byte, hok, a :: as, e :: es, K, hr, hk => packT_atom hr (show asD h .byte a K from hk) (fun K' hk => hk) rfl
  | .sl r, hok, a :: as, e :: es, K, hr, hk => packT_atom hr (show asD h (.sl r) a K from hk) (fun K' hk => hk) rfl
  | .int _, _, [], _, _, _, hk => hk.elim
  | .bool, _, [], _, _, _, hk => hk.elim
  | .str, _, [], _, _, _, hk => hk.elim
  | .byte, _, [], _, _, _, hk => hk.elim
  | .sl _, _, [], _, _, _, hk => hk.elim
  | .int _, _, _ :: _, [], _, h, _ => h.elim
  | .bool, _, _ :: _, [], _, h, _ => h.elim
  | .str, _, _ :: _, [], _, h, _ => h.elim
  | .byte, _, _ :: _, [], _, h, _ => h.elim
  | .sl _, _, _ :: _, [], _, h, _ => h.elim
where
  packT_atom {h : VH} {T : Ty} {a : TA} {as : List TA} {e : EV} {es : List EV} {K : T.den → Prop} (hr : All2 (relA h f) (a :: as) (e :: es)) (hk : asD h T a K) (hp : ∀ K', asD h T a K' → packT h T (a :: as) K') (hw : T.w = 1) :
      ∃ x, K x ∧ (∀ K' : T.den → Prop, K' x → packT h T (a :: as) K') ∧ T.w ≤ (e :: es).length ∧ cellsD ((e :: es).take T.w) = some (T.cells x) := by
    obtain ⟨x, d, h1, h2, h3, h4⟩ := asD_rel hk hr.1
    exact ⟨x, h1, fun K' hk => hp K' (h2 K' hk), by rw [hw]; simp, by rw [hw, h3]; simp [cellsD, h4]⟩

theorem mkV_rel {h : VH} {T : Ty} (ht : T.atom = true) (hok : T.ok = true) (x : T.den) : ∃ d, T.cells x = [d] ∧ relA h f (mkV T x) (.d d) := by
  cases T with
  | cons _ _ => simp [Ty.atom] at ht
  | int k => exact ⟨_, rfl, rfl, rfl⟩
  | bool => exact ⟨_, rfl, rfl, rfl⟩
  | str => exact ⟨_, rfl, rfl, rfl⟩
  | byte => exact ⟨_, rfl, rfl, rfl⟩
  | sl r => exact ⟨_, rfl, hok, rfl⟩

theorem fldV_rel {h : VH} : ∀ {T : Ty} (_ : T.ok = true) {x : T.den} {i : Nat} {a : TA}, fldV T x i = some a → ∃ d, (T.cells x)[i]? = some d ∧ relA h f a (.d d)
  | .cons g r, hok, x, 0, a, he => by
    simp only [Ty.ok, Bool.and_eq_true] at hok
    obtain ⟨d, h1, h2⟩ := mkV_rel (f := f) (h := h) hok.1.1 hok.1.2 x.1
    simp only [fldV, Option.some.injEq] at he
    subst he
    exact ⟨d, by simp [Ty.cells, h1], h2⟩
  | .cons g r, hok, x, i + 1, a, he => by
    simp only [Ty.ok, Bool.and_eq_true] at hok
    obtain ⟨d, h1, h2⟩ := fldV_rel hok.2 (show fldV r x.2 i = some a from he)
    obtain ⟨d0, _, h3⟩ := vE_atom hok.1.1 x.1
    exact ⟨d, by simp [Ty.cells, h3, h1], h2⟩
  | .int k, hok, x, 0, a, he => by
    obtain ⟨d, h1, h2⟩ := mkV_rel (f := f) (h := h) (T := .int k) rfl hok x
    simp only [fldV, Option.some.injEq] at he; subst he
    exact ⟨d, by rw [h1]; rfl, h2⟩
  | .bool, hok, x, 0, a, he => by
    obtain ⟨d, h1, h2⟩ := mkV_rel (f := f) (h := h) (T := .bool) rfl hok x
    simp only [fldV, Option.some.injEq] at he; subst he
    exact ⟨d, by rw [h1]; rfl, h2⟩
  | .str, hok, x, 0, a, he => by
    obtain ⟨d, h1, h2⟩ := mkV_rel (f := f) (h := h) (T := .str) rfl hok x
    simp only [fldV, Option.some.injEq] at he; subst he
    exact ⟨d, by rw [h1]; rfl, h2⟩
  | .byte, hok, x, 0, a, he => by
    obtain ⟨d, h1, h2⟩ := mkV_rel (f := f) (h := h) (T := .byte) rfl hok x
    simp only [fldV, Option.some.injEq] at he; subst he
    exact ⟨d, by rw [h1]; rfl, h2⟩
  | .sl r, hok, x, 0, a, he => by
    obtain ⟨d, h1, h2⟩ := mkV_rel (f := f) (h := h) (T := .sl r) rfl hok x
    simp only [fldV, Option.some.injEq] at he; subst he
    exact ⟨d, by rw [h1]; rfl, h2⟩
  | .int _, _, _, _ + 1, _, he => by simp [fldV] at he
  | .bool, _, _, _ + 1, _, he => by simp [fldV] at he
  | .str, _, _, _ + 1, _, he => by simp [fldV] at he
  | .byte, _, _, _ + 1, _, he => by simp [fldV] at he
  | .sl _, _, _, _ + 1, _, he => by simp [fldV] at he

theorem cellTAs_rel {h : VH} : ∀ {T : Ty} (_ : T.ok = true) (x : T.den), All2 (relA h f) (cellTAs T x) ((T.cells x).map .d)
  | .cons g r, hok, x => by
    simp only [Ty.ok, Bool.and_eq_true] at hok
    obtain ⟨d, h1, h2⟩ := mkV_rel (f := f) (h := h) hok.1.1 hok.1.2 x.1
    simp only [cellTAs, Ty.cells, h1, List.cons_append, List.nil_append, List.map_cons]
    exact ⟨h2, cellTAs_rel hok.2 x.2⟩
  | .int k, hok, x => ⟨⟨rfl, rfl⟩, trivial⟩
  | .bool, hok, x => ⟨⟨rfl, rfl⟩, trivial⟩
  | .str, hok, x => ⟨⟨rfl, rfl⟩, trivial⟩
  | .byte, hok, x => ⟨⟨rfl, rfl⟩, trivial⟩
  | .sl r, hok, x => ⟨⟨hok, rfl⟩, trivial⟩
theorem boxV_rel {h : VH} {T : Ty} (hok : T.ok = true) (x : T.den) (st : St) : ∃ es, boxCells st (vE T x) = some es ∧ All2 (relA h f) (cellTAs T x) es := by
  refine ⟨(T.cells x).map .d, ?_, cellTAs_rel hok x⟩
  cases T <;> rfl
theorem cellTAs_len : ∀ {T : Ty} (x : T.den), (cellTAs T x).length = T.w
  | .cons g r, x => by simp [cellTAs, Ty.w, cellTAs_len x.2]
  | .int _, _ => rfl
  | .bool, _ => rfl
  | .str, _ => rfl
  | .byte, _ => rfl
  | .sl _, _ => rfl

/-! ### zero values -/
theorem zero1_rel {h : VH} {ti : TI} {T : Ty} {t : TypeId} (hb : fB ti T [t] = true) : ∃ e, zeroE ti t = some e ∧ relA h f (zeroTA T) e ∧ ∃ d, cellD e = some d ∧ T.cells T.dfl = [d] := by
  cases T with
  | cons _ _ => simp [fB] at hb
  | int k =>
    simp only [fB] at hb
    split at hb
    · rename_i k' h1
      simp only [Bool.and_eq_true, decide_eq_true_eq] at hb
      obtain ⟨rfl, _⟩ := hb
      exact ⟨_, by simp [zeroE, h1]; rfl, ⟨rfl, rfl⟩, _, rfl, rfl⟩
    · simp at hb
  | bool =>
    simp only [fB] at hb
    split at hb
    · rename_i h1; exact ⟨_, by simp [zeroE, h1]; rfl, ⟨rfl, rfl⟩, _, rfl, rfl⟩
    · simp at hb
  | str =>
    simp only [fB] at hb
    split at hb
    · rename_i h1; exact ⟨_, by simp [zeroE, h1]; rfl, ⟨rfl, rfl⟩, _, rfl, rfl⟩
    · simp at hb
  | byte =>
    simp only [fB] at hb
    split at hb
    · rename_i h1; exact ⟨_, by simp [zeroE, h1]; rfl, ⟨rfl, rfl⟩, _, rfl, rfl⟩
    · simp at hb
  | sl r =>
    have hok := (fB_ok hb).1
    simp only [fB] at hb
    split at hb
    · rename_i e h1
      have hw : szT ti e = r.w := by
        unfold szT
        split at hb
        · rename_i fs h2
          simp only [Bool.and_eq_true] at hb
          rw [h2]; exact (fB_ok hb.2).2.symm
        · rename_i k h2 h3
          rw [h3, (fB_ok hb).2]
          cases k <;> first | rfl | exact absurd rfl (h2 _)
        · simp at hb
      exact ⟨.nil r.w, by simp [zeroE, h1, hw], ⟨by simpa [Ty.ok] using hok, rfl⟩, _, rfl, rfl⟩
    · simp at hb
theorem zeros_rel {h : VH} {ti : TI} : ∀ {T : Ty} {fs : List TypeId}, fB ti T fs = true → ∃ es, zeroEs ti fs = some es ∧ All2 (relA h f) (zeroTAs T) es ∧ cellsD es = some (T.cells T.dfl)
  | .cons g r, [], hb => by simp [fB] at hb
  | .cons g r, t :: ts, hb => by
    simp only [fB, Bool.and_eq_true] at hb
    obtain ⟨⟨⟨h1, h2⟩, h3⟩, _⟩ := hb
    obtain ⟨e, h4, h5, d, h6, h7⟩ := zero1_rel (f := f) (h := h) h1
    obtain ⟨es, h8, h9, h10⟩ := zeros_rel h3
    exact ⟨e :: es, by simp [zeroEs, h4, h8], ⟨h5, h9⟩, by simp [cellsD, h6, h10, Ty.dfl, Ty.cells, h7]⟩
  | .int k, [t], hb => zeros1 hb rfl
  | .bool, [t], hb => zeros1 hb rfl
  | .str, [t], hb => zeros1 hb rfl
  | .byte, [t], hb => zeros1 hb rfl
  | .sl r, [t], hb => zeros1 hb rfl
  | .int _, [], hb => by simp [fB] at hb
  | .bool, [], hb => by simp [fB] at hb
  | .str, [], hb => by simp [fB] at hb
  | .byte, [], hb => by simp [fB] at hb
  | .sl _, [], hb => by simp [fB] at hb
  | .int _, _ :: _ :: _, hb => by simp [fB] at hb
  | .bool, _ :: _ :: _, hb => by simp [fB] at hb
  | .str, _ :: _ :: _, hb => by simp [fB] at hb
  | .byte, _ :: _ :: _, hb => by simp [fB] at hb
  | .sl _, _ :: _ :: _, hb => by simp [fB] at hb
where
  zeros1 {h : VH} {ti : TI} {T : Ty} {t : TypeId} (hb : fB ti T [t] = true) (hz : zeroTAs T = [zeroTA T]) : ∃ es, zeroEs ti [t] = some es ∧ All2 (relA h f) (zeroTAs T) es ∧ cellsD es = some (T.cells T.dfl) := by
    obtain ⟨e, h4, h5, d, h6, h7⟩ := zero1_rel (f := f) (h := h) hb
    exact ⟨[e], by simp [zeroEs, h4], by rw [hz]; exact ⟨h5, trivial⟩, by simp [cellsD, h6, h7]⟩
theorem zeroBox_rel {h : VH} {ti : TI} {T : Ty} {t : TypeId} (hb : rowTy ti t T = true) : ∃ es, zeroBox ti t = some es ∧ All2 (relA h f) (zeroTAs T) es ∧ cellsD es = some (T.cells T.dfl) := by
  unfold rowTy at hb
  unfold zeroBox
  split at hb
  · rename_i fs h1
    simp only [Bool.and_eq_true] at hb
    rw [h1]
    exact zeros_rel hb.2
  · rename_i k h1 h2
    obtain ⟨es, h3, h4, h5⟩ := zeros_rel (f := f) (h := h) hb
    rw [h2]
    refine ⟨es, ?_, h4, h5⟩
    simp only [zeroEs] at h3
    cases k <;> first | exact absurd rfl (h1 _) | skip
    all_goals
      cases hz : zeroE ti t with
      | none => rw [hz] at h3; simp at h3
      | some z => rw [hz] at h3; simp at h3; simp [← h3]
  · simp at hb
end Go.RX

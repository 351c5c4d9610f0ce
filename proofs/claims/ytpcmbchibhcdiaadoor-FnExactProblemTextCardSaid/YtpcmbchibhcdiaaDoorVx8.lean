/- VX, part 8: operations, on. -/
import Derived.Test.YtpcmbchibhcdiaaDoorVx7
namespace Go.RX
open Go

variable {nt : Nat} {f : Nat → Nat} {vs : VSt} {st : St} {ven : VEn} {ren : En} {b : Nat} {o : Oper} {K : TV → Ups → Prop}

/-! ### equality of structs -/
theorem kinds_rel {ti : TI} : ∀ {T : Ty} {fs : List TypeId} (_ : fB ti T fs = true) (_ : T.flat = true) (x : T.den), all2B (fun f x => kindTK (ti f) x) fs (T.cells x) = true
  | .cons g r, [], hb, _, _ => by simp [fB] at hb
  | .cons g r, t :: ts, hb, hf, x => by
    simp only [fB, Bool.and_eq_true] at hb
    obtain ⟨⟨⟨h1, h2⟩, h3⟩, _⟩ := hb
    simp only [Ty.flat, Bool.and_eq_true] at hf
    have ih1 := kinds_rel h1 hf.1 x.1
    have ih2 := kinds_rel h3 hf.2 x.2
    obtain ⟨d, _, h5⟩ := vE_atom h2 x.1
    rw [h5] at ih1
    simp only [Ty.cells, h5, List.cons_append, List.nil_append, all2B, Bool.and_eq_true]
    simp only [all2B, Bool.and_true] at ih1
    exact ⟨ih1, ih2⟩
  | .int k, [t], hb, _, x => by
    simp only [fB] at hb
    split at hb
    · rename_i k' h1
      simp only [Bool.and_eq_true, decide_eq_true_eq] at hb
      obtain ⟨rfl, _⟩ := hb
      simp [all2B, Ty.cells, kindTK, h1]
    · simp at hb
  | .bool, [t], hb, _, x => by
    simp only [fB] at hb
    split at hb
    · rename_i h1; simp [all2B, Ty.cells, kindTK, h1]
    · simp at hb
  | .str, [t], hb, _, x => by
    simp only [fB] at hb
    split at hb
    · rename_i h1; simp [all2B, Ty.cells, kindTK, h1]
    · simp at hb
  | .byte, [t], hb, _, x => by
    simp only [fB] at hb
    split at hb
    · rename_i h1; simp [all2B, Ty.cells, kindTK, h1]
    · simp at hb
  | .sl _, _, _, hf, _ => by simp [Ty.flat] at hf
  | .int _, [], hb, _, _ => by simp [fB] at hb
  | .bool, [], hb, _, _ => by simp [fB] at hb
  | .str, [], hb, _, _ => by simp [fB] at hb
  | .byte, [], hb, _, _ => by simp [fB] at hb
  | .int _, _ :: _ :: _, hb, _, _ => by simp [fB] at hb
  | .bool, _ :: _ :: _, hb, _, _ => by simp [fB] at hb
  | .str, _ :: _ :: _, hb, _, _ => by simp [fB] at hb
  | .byte, _ :: _ :: _, hb, _, _ => by simp [fB] at hb

theorem veq_eq : ∀ {T : Ty} (_ : T.ok = true) (_ : T.flat = true) (x y : T.den), veq T x y = all2B eqD (T.cells x) (T.cells y)
  | .cons g r, hok, hf, x, y => by
    simp only [Ty.ok, Bool.and_eq_true] at hok
    simp only [Ty.flat, Bool.and_eq_true] at hf
    have ih1 := veq_eq hok.1.2 hf.1 x.1 y.1
    have ih2 := veq_eq hok.2 hf.2 x.2 y.2
    obtain ⟨d, _, h5⟩ := vE_atom hok.1.1 x.1
    obtain ⟨d', _, h6⟩ := vE_atom hok.1.1 y.1
    rw [h5, h6] at ih1
    simp only [all2B, Bool.and_true] at ih1
    simp only [veq, Ty.cells, h5, h6, List.cons_append, List.nil_append, all2B, ih1, ih2]
  | .int k, _, _, x, y => by simp [veq, Ty.cells, all2B, eqD]
  | .bool, _, _, x, y => by simp [veq, Ty.cells, all2B, eqD]
  | .str, _, _, x, y => by simp [veq, Ty.cells, all2B, eqD, seq]
  | .byte, _, _, x, y => by simp [veq, Ty.cells, all2B, eqD, ofB]
  | .sl _, _, hf, _, _ => by simp [Ty.flat] at hf

theorem idx_toNat {i : Int} {m : Nat} (h : idx i m = true) : 0 ≤ i ∧ i.toNat < m := by
  simp only [idx_eq, Bool.and_eq_true, decide_eq_true_eq] at h
  omega
theorem ibinV_ext {op : BinOp} {k : IntKind} {x y : Int} {K : TA → Prop} (hk : ibinV op k x y K) :
    ∃ a e, K a ∧ (∀ K' : TA → Prop, K' a → ibinV op k x y K') ∧ (∀ (h : VH) (f : Nat → Nat), relA h f a e) ∧ ∀ KE : EV → Prop, KE e → ibin op k x y KE := by
  cases op <;> simp only [ibinV] at hk <;> first
    | exact hk.elim
    | (obtain ⟨h1, hk⟩ := grd_iff.mp hk
       refine ⟨_, _, hk, fun K' hk => grd_iff.mpr ⟨h1, hk⟩, fun _ _ => ⟨rfl, rfl⟩, fun KE hk => ?_⟩
       simp only [ibin]
       exact ⟨by simpa [ine] using h1, hk⟩)
    | exact ⟨_, _, hk, fun K' hk => hk, fun _ _ => ⟨rfl, rfl⟩, fun KE hk => hk⟩
    | exact ⟨_, _, hk, fun K' hk => hk, fun _ _ => ⟨rfl, rfl⟩, fun KE hk => by simp only [ibin]; first | (rw [← ile_eq]; exact hk) | (rw [← ilt_eq]; exact hk)⟩
theorem sbinV_ext {op : BinOp} {x y : ByteArray} {K : TA → Prop} (hk : sbinV op x y K) :
    ∃ a e, K a ∧ (∀ K' : TA → Prop, K' a → sbinV op x y K') ∧ (∀ (h : VH) (f : Nat → Nat), relA h f a e) ∧ ∀ KE : EV → Prop, KE e → sbin op x y KE := by
  cases op
  case add =>
    obtain ⟨h1, hk⟩ := grd_iff.mp (show grd (fitsS (zadd (slen x) (slen y))) _ from hk)
    refine ⟨_, _, hk, fun K' hk => grd_iff.mpr ⟨h1, hk⟩, fun _ _ => ⟨rfl, rfl⟩, fun KE hk => ?_⟩
    refine (show x.size + y.size ≤ 9223372036854775807 ∧ KE _ from ⟨?_, hk⟩)
    have h2 : (x.size : Int) + y.size ≤ 9223372036854775807 := of_decide_eq_true (fitsS_eq _ ▸ h1)
    omega
  all_goals simp only [sbinV] at hk
  all_goals first
    | exact hk.elim
    | exact ⟨_, _, hk, fun K' hk => hk, fun _ _ => ⟨rfl, rfl⟩, fun KE hk => hk⟩

theorem vop_binop (H : VOk ven ren) (h : Rel nt f vs st) {op : BinOp} {tt u : TypeId} {x y : Operand} (ho : o.op = .binOp op tt x y u) (hk : vop ven b vs.h vs.t o K) : OpRes nt ven ren b vs st o K := by
  have hk' := hk
  simp only [vop, ho] at hk'
  have hx := vo_rel h x
  have hy := vo_rel h y
  have fin : ∀ (a : TA) (e : EV), K (.a a) [] → (∀ K' : TA → Prop, K' a → vbin ven.ty ven.eqT tt op (vo vs.t x) (vo vs.t y) K') → relA vs.h f a e →
      (∀ KE : EV → Prop, KE e → pbinA ren.P ren.ti op tt (ev st x) (ev st y) KE) → OpRes nt ven ren b vs st o K := fun a e h1 h2 h3 h4 =>
    res_read h (a := .a a) h1 (fun K' hk => by simp only [vop, ho]; exact h2 _ hk) h3 (fun KE hk => by simp only [EWop, ho]; exact h4 _ hk)
  unfold vbin at hk'
  split at hk'
  · rename_i g r p T q hxv hyv
    rw [chk_iff] at hk'
    obtain ⟨hc, hk'⟩ := hk'
    simp only [Bool.and_eq_true, decide_eq_true_eq] at hc
    obtain ⟨⟨hty, heq⟩, hfl⟩ := hc
    obtain ⟨he, hk', hext⟩ := castD_ext hk'
    subst he
    rw [hxv] at hx
    rw [hyv] at hy
    obtain ⟨hok, hxe⟩ := hx
    obtain ⟨_, hye⟩ := hy
    have hrow := H.ty _ _ hty
    obtain ⟨fts, hti, hfb⟩ : ∃ fts, ren.ti tt = some (.st fts) ∧ fB ren.ti (.cons g r) fts = true := by
      unfold rowTy at hrow
      split at hrow
      · rename_i fs h1
        simp only [Bool.and_eq_true] at hrow
        exact ⟨fs, h1, hrow.2⟩
      · simp [fB] at hrow
      · simp at hrow
    have key : ∀ KE : EV → Prop, (op = .eql ∧ KE (.d (.im (.bool (veq (.cons g r) p q)))) ∨ op = .neq ∧ KE (.d (.im (.bool (vne (.cons g r) p q))))) → pbinA ren.P ren.ti op tt (ev st x) (ev st y) KE := by
      intro KE hK
      rw [hxe, hye]
      simp only [vE, pbinA]
      refine ⟨H.eqT _ heq, ⟨fts, hti, kinds_rel hfb hfl p, kinds_rel hfb hfl q⟩, ?_⟩
      rw [← veq_eq hok hfl]
      rcases hK with ⟨rfl, hK⟩ | ⟨rfl, hK⟩
      · exact hK
      · exact hK
    have hch : chk (decide (ven.ty tt = some (.cons g r)) && ven.eqT tt && Ty.flat (.cons g r)) = fun p => p := by
      funext p'; apply propext; rw [chk_iff]; simp [hty, heq, hfl]
    cases op <;> simp only [tbinV] at hk' <;> first
      | exact hk'.elim
      | exact fin _ _ hk' (fun K' hk => by unfold vbin; simp only [hxv, hyv, hch]; exact hext _ hk) ⟨rfl, rfl⟩ (fun KE hK => key KE (.inl ⟨rfl, hK⟩))
      | exact fin _ _ hk' (fun K' hk => by unfold vbin; simp only [hxv, hyv, hch]; exact hext _ hk) ⟨rfl, rfl⟩ (fun KE hK => key KE (.inr ⟨rfl, hK⟩))
  · rename_i p q hxv hyv
    rw [chk_iff] at hk'
    obtain ⟨hc, hk'⟩ := hk'
    have hti := rowTy_bool (H.ty _ _ (of_decide_eq_true hc))
    rw [hxv] at hx
    rw [hyv] at hy
    obtain ⟨_, hxe⟩ := hx
    obtain ⟨_, hye⟩ := hy
    cases op <;> simp only [bbinV] at hk' <;> first
      | exact hk'.elim
      | exact fin _ _ hk' (fun K' hk => by unfold vbin; simp only [hxv, hyv]; rw [chk_iff]; exact ⟨hc, hk⟩) ⟨rfl, rfl⟩ (fun KE hK => by rw [hxe, hye]; simp only [vE, pbinA]; exact ⟨hti, hK⟩)
  · rename_i k p k' q hxv hyv
    rw [chk_iff] at hk'
    obtain ⟨hc, hk'⟩ := hk'
    have hkk : k = k' := of_decide_eq_true hc
    subst hkk
    obtain ⟨a, e, h1, h2, h3, h4⟩ := ibinV_ext hk'
    rw [hxv] at hx
    rw [hyv] at hy
    obtain ⟨_, hxe⟩ := hx
    obtain ⟨_, hye⟩ := hy
    refine fin a e h1 (fun K' hk => by unfold vbin; simp only [hxv, hyv]; rw [chk_iff]; exact ⟨by simp, h2 K' hk⟩) (h3 _ _) (fun KE hK => ?_)
    rw [hxe, hye]
    simp only [vE, pbinA, pbin]
    have hsh : op ≠ .shl ∧ op ≠ .shr := by
      constructor <;> (intro he; subst he; simp [ibinV] at hk')
    exact ⟨trivial, hsh.1, hsh.2, h4 KE hK⟩
  · rename_i p q hxv hyv
    obtain ⟨a, e, h1, h2, h3, h4⟩ := sbinV_ext hk'
    rw [hxv] at hx
    rw [hyv] at hy
    obtain ⟨_, hxe⟩ := hx
    obtain ⟨_, hye⟩ := hy
    refine fin a e h1 (fun K' hk => by unfold vbin; simp only [hxv, hyv]; exact h2 K' hk) (h3 _ _) (fun KE hK => ?_)
    rw [hxe, hye]
    simp only [vE, pbinA, pbin]
    exact h4 KE hK
  · exact hk'.elim

theorem vop_max (h : Rel nt f vs st) {x y : Operand} {args : Array Operand} {ats : Array TypeId} (ho : o.op = .call { callee := .builtin .max, args := args, argTypes := ats }) (hargs : args.toList = [x, y]) (hk : vop ven b vs.h vs.t o K) : OpRes nt ven ren b vs st o K := by
  have hk' := hk
  have e0 : ∀ K' : TV → Ups → Prop, vop ven b vs.h vs.t o K' = vmax (vo vs.t x) (vo vs.t y) (fun a => K' (.a a) []) := by
    intro K'
    simp only [vop, ho, hargs, vbuiltin]
  rw [e0] at hk'
  have hx := vo_rel h x
  have hy := vo_rel h y
  unfold vmax at hk'
  split at hk'
  case h_2 => exact hk'.elim
  rename_i k p k' q hxv hyv
  rw [chk_iff] at hk'
  obtain ⟨hc, hk'⟩ := hk'
  have hkk : k = k' := of_decide_eq_true hc
  subst hkk
  rw [hxv] at hx
  rw [hyv] at hy
  obtain ⟨_, hxe⟩ := hx
  obtain ⟨_, hye⟩ := hy
  refine res_read h (a := .a _) hk' (fun K' hk => by rw [e0]; unfold vmax; simp only [hxv, hyv]; rw [chk_iff]; exact ⟨by simp, hk⟩) ⟨rfl, rfl⟩ (fun KE hk => ?_)
  simp only [EWop, ho, hargs]
  have : pbuiltin ren .max ats.toList [x, y] o.dst st KE = pmax (ev st x) (ev st y) (fun e => KE (st.put o.dst e)) := by
    unfold pbuiltin
    cases ats.toList with
    | nil => rfl
    | cons t ts => cases ts <;> rfl
  rw [this, hxe, hye]
  simp only [vE, pmax]
  exact ⟨trivial, hk⟩

theorem isInt_rel (H : VOk ven ren) {t : TypeId} (hi : isInt (ven.ty t) = true) : ∃ k, ren.ti t = some (.int k) := by
  unfold isInt at hi
  split at hi
  · rename_i k h1; exact ⟨k, rowTy_int (H.ty _ _ h1)⟩
  · rename_i h1; exact ⟨.u8, rowTy_byte (H.ty _ _ h1)⟩
  · simp at hi

theorem vop_convert (H : VOk ven ren) (h : Rel nt f vs st) {src dst : TypeId} {x : Operand} (ho : o.op = .convert src dst x) (hk : vop ven b vs.h vs.t o K) : OpRes nt ven ren b vs st o K := by
  have hk' := hk
  simp only [vop, ho] at hk'
  have hx := vo_rel h x
  have fin : ∀ (a : TA) (e : EV), K (.a a) [] → (∀ K' : TA → Prop, K' a → vconv ven.ty vs.h src dst (vo vs.t x) K') → relA vs.h f a e →
      (∀ KE : EV → Prop, KE e → pconvS ren.ti st src dst (ev st x) KE) → OpRes nt ven ren b vs st o K := fun a e h1 h2 h3 h4 =>
    res_read h (a := .a a) h1 (fun K' hk => by simp only [vop, ho]; exact h2 _ hk) h3 (fun KE hk => by simp only [EWop, ho]; exact h4 _ hk)
  unfold vconv at hk'
  split at hk'
  · rename_i k n hxv
    rw [chk_iff] at hk'
    obtain ⟨hc, hk'⟩ := hk'
    obtain ⟨ks, hks⟩ := isInt_rel H hc
    rw [hxv] at hx
    obtain ⟨_, hxe⟩ := hx
    unfold vconvI at hk'
    split at hk'
    · rename_i kd hd
      have hkd := rowTy_int (H.ty _ _ hd)
      refine fin _ _ hk' (fun K' hk => by unfold vconv; simp only [hxv]; rw [chk_iff]; exact ⟨hc, by unfold vconvI; rw [hd]; exact hk⟩) ⟨rfl, rfl⟩ (fun KE hK => ?_)
      rw [hxe]; simp only [vE, pconvS, pconvert, hks, hkd]; exact hK
    · rename_i hd
      have hkd := rowTy_byte (H.ty _ _ hd)
      refine fin _ _ hk' (fun K' hk => by unfold vconv; simp only [hxv]; rw [chk_iff]; exact ⟨hc, by unfold vconvI; rw [hd]; exact hk⟩) ⟨rfl, rfl⟩ (fun KE hK => ?_)
      rw [hxe]; simp only [vE, pconvS, pconvert, hks, hkd]; exact hK
    · exact hk'.elim
  · rename_i s hxv
    rw [chk_iff] at hk'
    obtain ⟨hc, hk'⟩ := hk'
    have hc' := hc
    simp only [Bool.and_eq_true, decide_eq_true_eq] at hc'
    have h1 := rowTy_str (H.ty _ _ hc'.1)
    have h2 := rowTy_str (H.ty _ _ hc'.2)
    rw [hxv] at hx
    obtain ⟨_, hxe⟩ := hx
    refine fin _ _ hk' (fun K' hk => by unfold vconv; simp only [hxv]; rw [chk_iff]; exact ⟨hc, hk⟩) ⟨rfl, rfl⟩ (fun KE hK => ?_)
    rw [hxe]; simp only [vE, pconvS, pconvert, h1, h2]; exact hK
  · rename_i n sg hxv
    rw [chk_iff] at hk'
    obtain ⟨hc, hk'⟩ := hk'
    have hc' := hc
    simp only [Bool.and_eq_true, decide_eq_true_eq] at hc'
    obtain ⟨el, h1, h1'⟩ := rowTy_sl (H.ty _ _ hc'.1)
    have h2 := rowTy_str (H.ty _ _ hc'.2)
    have h3 := rowTy_byte h1'
    rw [hxv] at hx
    split at hk'
    case h_2 => exact hk'.elim
    rename_i T rows hs
    simp only [relA] at hx
    rw [hs] at hx
    have hxe := hx.2.2 rfl
    obtain ⟨_, hob⟩ := relS.arr h hs
    cases T <;> first | exact hk'.elim | skip
    obtain ⟨hne, hk'⟩ := grd_iff.mp (show grd (nonE (segOf rows sg)) _ from hk')
    refine fin _ _ hk' (fun K' hk => by unfold vconv; simp only [hxv]; rw [chk_iff]; exact ⟨hc, by rw [hs]; exact grd_iff.mpr ⟨hne, hk⟩⟩) ⟨rfl, rfl⟩ (fun KE hK => ?_)
    rw [hxe]
    simp only [pconvS]
    refine ⟨⟨el, h1, h3⟩, h2, _, hob, segOf rows sg, ?_, ?_, hK⟩
    · intro he; rw [he] at hne; simp [nonE] at hne
    · rw [segOf_eq, List.map_take, List.map_drop]; rfl
  · exact hk'.elim

theorem vop_field (H : VOk ven ren) (h : Rel nt f vs st) {s : TypeId} {x : Operand} {k : Nat} (ho : o.op = .field s x k) (hk : vop ven b vs.h vs.t o K) : OpRes nt ven ren b vs st o K := by
  have hk' := hk
  simp only [vop, ho] at hk'
  have hx := vo_rel h x
  unfold vfield at hk'
  split at hk'
  case h_2 => exact hk'.elim
  rename_i u r T v hty hxv
  rw [chk_iff] at hk'
  obtain ⟨hc, hk'⟩ := hk'
  have hT := of_decide_eq_true hc
  subst hT
  unfold loadT at hk'
  split at hk'
  case h_2 => exact hk'.elim
  rename_i a ha
  rw [hxv] at hx
  obtain ⟨hok, hxe⟩ := hx
  obtain ⟨d, h1, h2⟩ := fldV_rel (f := f) (h := vs.h) hok ha
  have hrow := H.ty _ _ hty
  obtain ⟨fts, hti, hfb⟩ : ∃ fts, ren.ti s = some (.st fts) ∧ fB ren.ti (.cons u r) fts = true := by
    unfold rowTy at hrow
    split at hrow
    · rename_i fs h1
      simp only [Bool.and_eq_true] at hrow
      exact ⟨fs, h1, hrow.2⟩
    · simp [fB] at hrow
    · simp at hrow
  have hlt : k < fts.length := by
    have e1 := (List.getElem?_eq_some_iff.mp h1).1
    rw [Ty.cells_len hok, (fB_ok hfb).2] at e1
    exact e1
  refine res_read h (a := .a a) hk' (fun K' hk => by simp only [vop, ho, vfield, hty, hxv]; rw [chk_iff]; exact ⟨by simp, by rw [ha]; exact hk⟩) h2 (fun KE hK => ?_)
  simp only [EWop, ho, hxe, vE, pfield, hti]
  exact ⟨hlt, d, h1, hK⟩

theorem vop_index (H : VOk ven ren) (h : Rel nt f vs st) {tt : TypeId} {x i : Operand} (ho : o.op = .index tt x i) (hk : vop ven b vs.h vs.t o K) : OpRes nt ven ren b vs st o K := by
  have hk' := hk
  simp only [vop, ho] at hk'
  rw [chk_iff] at hk'
  obtain ⟨hc, hk'⟩ := hk'
  have hti := rowTy_str (H.ty _ _ (of_decide_eq_true hc))
  have hx := vo_rel h x
  have hi := vo_rel h i
  unfold vindex at hk'
  split at hk'
  case h_2 => exact hk'.elim
  rename_i s k j hxv hiv
  obtain ⟨h1, hk'⟩ := grd_iff.mp hk'
  rw [hxv] at hx
  rw [hiv] at hi
  obtain ⟨_, hxe⟩ := hx
  obtain ⟨_, hie⟩ := hi
  have h2 := idx_toNat (m := s.size) h1
  refine res_read h (a := .a _) hk' (fun K' hk => by simp only [vop, ho]; rw [chk_iff]; exact ⟨hc, by unfold vindex; simp only [hxv, hiv]; exact grd_iff.mpr ⟨h1, hk⟩⟩) (e := .d (.im (.int .u8 (bt s j)))) ⟨rfl, rfl⟩ (fun KE hK => ?_)
  simp only [EWop, ho, hxe, hie, vE, pindex]
  have hlt : Int.toNat j < s.size := h2.2
  refine ⟨hti, h2.1, s[j.toNat], by simp [hlt], ?_⟩
  have : (s[j.toNat].toNat : Int) = bt s j := by
    unfold bt
    have : s.data.getD j.toNat 0 = s[j.toNat] := by
      rw [Array.getD_eq_getD_getElem?, Array.getElem?_eq_getElem hlt]; rfl
    rw [this]
  rw [this]; exact hK

theorem vop_len (H : VOk ven ren) (h : Rel nt f vs st) {tt : TypeId} {x : Operand} {args : Array Operand} {ats : Array TypeId} (ho : o.op = .call { callee := .builtin .len, args := args, argTypes := ats }) (hargs : args.toList = [x]) (hats : ats.toList = [tt]) (hk : vop ven b vs.h vs.t o K) : OpRes nt ven ren b vs st o K := by
  have hk' := hk
  simp only [vop, ho, hargs, hats, vbuiltin] at hk'
  have hx := voT_rel H h tt x
  have fin : ∀ (a : TA) (e : EV), K (.a a) [] → (∀ K' : TA → Prop, K' a → vlen ven.ty vs.h tt (voT ven.ty tt vs.t x) K') → relA vs.h f a e →
      (∀ KE : EV → Prop, KE e → plen st.o ren.ti tt (evT ren.ti tt st x) KE) → OpRes nt ven ren b vs st o K := fun a e h1 h2 h3 h4 =>
    res_read h (a := .a a) h1 (fun K' hk => by simp only [vop, ho, hargs, hats, vbuiltin]; exact h2 _ hk) h3 (fun KE hk => by simp only [EWop, ho, hargs, hats, pbuiltin]; exact h4 _ hk)
  have slti : isSl (ven.ty tt) = true → ∃ e, ren.ti tt = some (.sl e) := by
    intro hs
    unfold isSl at hs
    split at hs
    · rename_i r h1; obtain ⟨e, h2, _⟩ := rowTy_sl (H.ty _ _ h1); exact ⟨e, h2⟩
    · simp at hs
  unfold vlen at hk'
  split at hk'
  · rename_i s hxv
    rw [chk_iff] at hk'
    obtain ⟨hc, hk'⟩ := hk'
    have hti := rowTy_str (H.ty _ _ (of_decide_eq_true hc))
    rw [hxv] at hx
    obtain ⟨_, hxe⟩ := hx
    refine fin _ _ hk' (fun K' hk => by unfold vlen; simp only [hxv]; rw [chk_iff]; exact ⟨hc, hk⟩) ⟨rfl, rfl⟩ (fun KE hK => ?_)
    rw [hxe]; simp only [vE, plen, hti]; exact hK
  · rename_i r xs hxv
    rw [chk_iff] at hk'
    obtain ⟨hc, hk'⟩ := hk'
    obtain ⟨e, hti⟩ := slti hc
    rw [hxv] at hx
    obtain ⟨_, hxe⟩ := hx
    refine fin _ (.d (.im (.int .i64 (llen xs)))) hk' (fun K' hk => by unfold vlen; simp only [hxv]; rw [chk_iff]; exact ⟨hc, hk⟩) ⟨rfl, rfl⟩ (fun KE hK => ?_)
    rw [hxe]; simp only [vE, plen, hti, List.length_map]; exact hK
  · rename_i r hxv
    rw [chk_iff] at hk'
    obtain ⟨hc, hk'⟩ := hk'
    obtain ⟨e, hti⟩ := slti hc
    rw [hxv] at hx
    obtain ⟨_, hxe⟩ := hx
    refine fin _ _ hk' (fun K' hk => by unfold vlen; simp only [hxv]; rw [chk_iff]; exact ⟨hc, hk⟩) ⟨rfl, rfl⟩ (fun KE hK => ?_)
    rw [hxe]; simp only [plen, hti]; exact hK
  · rename_i n sg hxv
    split at hk'
    case h_2 => exact hk'.elim
    rename_i T rows fz hs
    rw [chk_iff] at hk'
    obtain ⟨hc, hk'⟩ := hk'
    obtain ⟨e, hti⟩ := slti hc
    rw [hxv] at hx
    simp only [relA] at hx
    rw [hs] at hx
    obtain ⟨hin, h2, h3⟩ := hx
    have hlen : (segLenI rows sg : Int) = (segLen rows sg : Int) := by
      cases sg with
      | none => rfl
      | some p => obtain ⟨lo, ln⟩ := p; simp only [segIn] at hin; simp only [segLenI, segLen]; omega
    refine fin _ (.d (.im (.int .i64 (segLenI rows sg)))) hk' (fun K' hk => by unfold vlen; simp only [hxv, hs]; rw [chk_iff]; exact ⟨hc, hk⟩) ⟨rfl, rfl⟩ (fun KE hK => ?_)
    cases fz with
    | true =>
      rw [h2 rfl]; simp only [plen, hti, List.length_map]
      rw [segOf_len hin, ← hlen]; exact hK
    | false =>
      rw [h3 rfl]; simp only [plen, hti]
      obtain ⟨_, hob⟩ := relS.arr h hs
      exact ⟨by rw [hob]; simp, by rw [← hlen]; exact hK⟩
  · exact hk'.elim
end Go.RX

/- VX: an operation does one thing. -/
import Derived.Test.YtpcmbchibhcdiaaDoorVx16
namespace Go.RX
open Go

def Det {α : Type} (X : (α → Prop) → Prop) : Prop := ∀ K, X K → ∃ a, K a ∧ ∀ K' : α → Prop, K' a → X K'
def Det2 {α β : Type} (X : (α → β → Prop) → Prop) : Prop := ∀ K, X K → ∃ a b, K a b ∧ ∀ K' : α → β → Prop, K' a b → X K'

theorem det_pure {α : Type} (a : α) : Det fun K => K a := fun _ h => ⟨a, h, fun _ h => h⟩
theorem det_false {α : Type} : Det fun _ : α → Prop => False := fun _ h => h.elim
theorem det_chk {α : Type} {X : (α → Prop) → Prop} (b : Bool) (h : Det X) : Det fun K => chk b (X K) := by
  intro K hk
  cases b
  · exact hk.elim
  · exact h K hk
theorem det_grd {α : Type} {X : (α → Prop) → Prop} (b : Bool) (h : Det X) : Det fun K => grd b (X K) := by
  intro K hk
  obtain ⟨hb, hk⟩ := grd_iff.mp hk
  obtain ⟨a, h1, h2⟩ := h K hk
  exact ⟨a, h1, fun K' hk' => grd_iff.mpr ⟨hb, h2 K' hk'⟩⟩
theorem det_br {α : Type} {X Y : (α → Prop) → Prop} (b : Bool) (h : Det X) (h' : Det Y) : Det fun K => br b (X K) (Y K) := by
  intro K hk
  cases b
  · exact h' K hk
  · exact h K hk
theorem det_bind {α β : Type} {X : (α → Prop) → Prop} {Y : α → (β → Prop) → Prop} (h : Det X) (h' : ∀ a, Det (Y a)) : Det fun K => X fun a => Y a K := by
  intro K hk
  obtain ⟨a, h1, h2⟩ := h _ hk
  obtain ⟨b, h3, h4⟩ := h' a K h1
  exact ⟨b, h3, fun K' hk' => h2 _ (h4 K' hk')⟩
theorem det_map {α β : Type} {X : (α → Prop) → Prop} (g : α → β) (h : Det X) : Det fun K => X fun a => K (g a) := by
  intro K hk
  obtain ⟨a, h1, h2⟩ := h _ hk
  exact ⟨_, h1, fun K' hk' => h2 _ hk'⟩
theorem det2_pure {α β : Type} (a : α) (b : β) : Det2 fun K => K a b := fun _ h => ⟨a, b, h, fun _ h => h⟩
theorem det2_false {α β : Type} : Det2 fun _ : α → β → Prop => False := fun _ h => h.elim
theorem det2_chk {α β : Type} {X : (α → β → Prop) → Prop} (b : Bool) (h : Det2 X) : Det2 fun K => chk b (X K) := by
  intro K hk
  cases b
  · exact hk.elim
  · exact h K hk
theorem det2_grd {α β : Type} {X : (α → β → Prop) → Prop} (b : Bool) (h : Det2 X) : Det2 fun K => grd b (X K) := by
  intro K hk
  obtain ⟨hb, hk⟩ := grd_iff.mp hk
  obtain ⟨a, c, h1, h2⟩ := h K hk
  exact ⟨a, c, h1, fun K' hk' => grd_iff.mpr ⟨hb, h2 K' hk'⟩⟩
theorem det2_bind {α β γ : Type} {X : (α → Prop) → Prop} {Y : α → (β → γ → Prop) → Prop} (h : Det X) (h' : ∀ a, Det2 (Y a)) : Det2 fun K => X fun a => Y a K := by
  intro K hk
  obtain ⟨a, h1, h2⟩ := h _ hk
  obtain ⟨b, c, h3, h4⟩ := h' a K h1
  exact ⟨b, c, h3, fun K' hk' => h2 _ (h4 K' hk')⟩
theorem det2_of {α β γ : Type} {X : (α → Prop) → Prop} (g : α → β) (c : α → γ) (h : Det X) : Det2 fun K => X fun a => K (g a) (c a) := by
  intro K hk
  obtain ⟨a, h1, h2⟩ := h _ hk
  exact ⟨_, _, h1, fun K' hk' => h2 _ hk'⟩
theorem det2_map {α β γ δ : Type} {X : (α → β → Prop) → Prop} (g : α → β → γ) (c : α → β → δ) (h : Det2 X) : Det2 fun K => X fun a b => K (g a b) (c a b) := by
  intro K hk
  obtain ⟨a, b, h1, h2⟩ := h _ hk
  exact ⟨_, _, h1, fun K' hk' => h2 _ hk'⟩

theorem castD_det {T T' : Ty} (x : T.den) : Det fun K : T'.den → Prop => castD x K := by
  intro K hk
  obtain ⟨he, h1, h2⟩ := castD_ext hk
  exact ⟨_, h1, h2⟩
theorem ownD_det {T : Ty} {sg : Option (Int × Int)} (s : Slot) : Det fun K : List T.den → Prop => ownD T sg K s := by
  intro K hk
  cases s with
  | arr T' rows frz =>
    cases frz with
    | true => exact castD_det (T := .sl T') (T' := .sl T) (segOf rows sg) K hk
    | false => exact hk.elim
  | _ => exact hk.elim
theorem byteV_det : ∀ {T : Ty} (x : T.den), Det fun K => byteV T x K
  | .int .u8, x => det_grd _ (det_pure _)
  | .int .i8, _ => det_false
  | .int .i16, _ => det_false
  | .int .i32, _ => det_false
  | .int .i64, _ => det_false
  | .int .u16, _ => det_false
  | .int .u32, _ => det_false
  | .int .u64, _ => det_false
  | .bool, _ => det_false
  | .str, _ => det_false
  | .byte, _ => det_false
  | .sl _, _ => det_false
  | .cons _ _, _ => det_false
theorem asV_det {T' : Ty} (x : T'.den) : ∀ (T : Ty), Det fun K : T.den → Prop => asV T' x T K
  | .byte => byteV_det x
  | .int k => castD_det (T' := .int k) x
  | .bool => castD_det (T' := .bool) x
  | .str => castD_det (T' := .str) x
  | .sl r => castD_det (T' := .sl r) x
  | .cons _ _ => det_false
theorem asNil_det (r' : Ty) : ∀ (T : Ty), Det fun K : T.den → Prop => asNil r' T K
  | .byte => det_false
  | .int k => det_false
  | .bool => det_false
  | .str => det_false
  | .sl r => det_chk _ (det_pure _)
  | .cons _ _ => det_false
theorem asOwn_det (sg : Option (Int × Int)) (s : Slot) : ∀ (T : Ty), Det fun K : T.den → Prop => asOwn sg s T K
  | .byte => det_false
  | .int k => det_false
  | .bool => det_false
  | .str => det_false
  | .sl r => ownD_det s
  | .cons _ _ => det_false
theorem asD_det (h : VH) (T : Ty) (a : TA) : Det fun K : T.den → Prop => asD h T a K := by
  cases a with
  | v T' x => exact asV_det x T
  | nilS r => exact asNil_det r T
  | own n sg => exact asOwn_det sg _ T
  | _ => exact det_false
theorem setF_det (h : VH) (a : TA) : ∀ (T : Ty) (x : T.den) (i : Nat), Det fun K : T.den → Prop => setF h T x i a K
  | .cons f r, x, 0 => det_map (X := asD h f a) (fun y => (y, x.2)) (asD_det h f a)
  | .cons f r, x, i + 1 => det_map (X := setF h r x.2 i a) (fun y => (x.1, y)) (setF_det h a r x.2 i)
  | .int k, x, 0 => asD_det h _ a
  | .bool, x, 0 => asD_det h _ a
  | .str, x, 0 => asD_det h _ a
  | .byte, x, 0 => asD_det h _ a
  | .sl r, x, 0 => asD_det h _ a
  | .int k, x, i + 1 => det_false
  | .bool, x, i + 1 => det_false
  | .str, x, i + 1 => det_false
  | .byte, x, i + 1 => det_false
  | .sl r, x, i + 1 => det_false
theorem fillV_det (h : VH) (T : Ty) : ∀ (ps : List (Nat × TA)) (x : T.den), Det fun K : T.den → Prop => fillV h T ps x K
  | [], x => det_pure x
  | (i, a) :: ps, x => det_bind (X := setF h T x i a) (Y := fun y => fillV h T ps y) (setF_det h a T x i) (fillV_det h T ps)
theorem rowD_det (h : VH) (T : Ty) (a : TA) : Det fun K : T.den → Prop => rowD h T a K := by
  cases T with
  | cons f r =>
    cases a with
    | v T' x => exact castD_det (T' := .cons f r) x
    | _ => exact det_false
  | _ => exact asD_det h _ a
theorem rowsV_det (h : VH) (T : Ty) (len : Nat) : ∀ (ps : List (Nat × TA)) (xs : List T.den), Det fun K : List T.den → Prop => rowsV h T len ps xs K
  | [], x => det_pure x
  | (i, a) :: ps, xs => det_chk _ (det_bind (X := rowD h T a) (Y := fun y => rowsV h T len ps (xs.set i y)) (rowD_det h T a) fun y => rowsV_det h T len ps _)
theorem packT_det (h : VH) : ∀ (T : Ty) (as : List TA), Det fun K : T.den → Prop => packT h T as K
  | .cons f r, a :: as => det_bind (X := asD h f a) (Y := fun x K => packT h r as fun y => K (x, y)) (asD_det h f a) fun x => det_map (X := packT h r as) (fun y => (x, y)) (packT_det h r as)
  | .cons f r, [] => det_false
  | .int k, a :: as => asD_det h _ a
  | .bool, a :: as => asD_det h _ a
  | .str, a :: as => asD_det h _ a
  | .byte, a :: as => asD_det h _ a
  | .sl r, a :: as => asD_det h _ a
  | .int k, [] => det_false
  | .bool, [] => det_false
  | .str, [] => det_false
  | .byte, [] => det_false
  | .sl r, [] => det_false
theorem setRow_det (h : VH) (tT T : Ty) (x : T.den) (fld : Nat) (a : TA) : Det fun K : T.den → Prop => setRow h tT T x fld a K := by
  cases a with
  | v T' y =>
    cases T' with
    | cons f r => exact det_chk _ (castD_det (T' := T) y)
    | _ => exact det_chk _ (setF_det h _ T x fld)
  | _ => exact det_chk _ (setF_det h _ T x fld)
theorem ibinV_det (op : BinOp) (k : IntKind) (x y : Int) : Det fun K => ibinV op k x y K := by
  cases op <;> first | exact det_pure _ | exact det_false | exact det_grd _ (det_pure _)
theorem sbinV_det (op : BinOp) (x y : ByteArray) : Det fun K => sbinV op x y K := by
  cases op <;> first | exact det_pure _ | exact det_false | exact det_grd _ (det_pure _)
theorem bbinV_det (op : BinOp) (x y : Bool) : Det fun K => bbinV op x y K := by
  cases op <;> first | exact det_pure _ | exact det_false
theorem tbinV_det (op : BinOp) (T : Ty) (x y : T.den) : Det fun K => tbinV op T x y K := by
  cases op <;> first | exact det_pure _ | exact det_false
theorem vbin_det (ty : TypeId → Option Ty) (eqT : TypeId → Bool) (tt : TypeId) (op : BinOp) (a b : TA) : Det fun K => vbin ty eqT tt op a b K := by
  intro K hk
  unfold vbin at hk
  split at hk
  · rename_i f r x T y
    exact (det_chk _ (det_bind (X := castD (T := T) (T' := .cons f r) y) (Y := fun y => tbinV op (.cons f r) x y) (castD_det y) fun y => tbinV_det op _ x y)) K hk
  · exact det_chk _ (bbinV_det op _ _) K hk
  · exact det_chk _ (ibinV_det op _ _ _) K hk
  · exact sbinV_det op _ _ K hk
  · exact hk.elim
theorem vun_det (op : UnOp) (a : TA) : Det fun K => vun op a K := by
  intro K hk
  unfold vun at hk
  split at hk
  · exact det_pure _ K hk
  · exact det_pure _ K hk
  · exact hk.elim
theorem strOfE_det (T : Ty) (rows : List T.den) : Det fun K => strOfE T rows K := by
  cases T <;> first | exact det_false | exact det_grd _ (det_pure _)
theorem vconvI_det (d : Option Ty) (n : Int) : Det fun K => vconvI d n K := by
  cases d with
  | none => exact det_false
  | some T => cases T <;> first | exact det_false | exact det_pure _
theorem vconv_det (ty : TypeId → Option Ty) (h : VH) (src dst : TypeId) (a : TA) : Det fun K => vconv ty h src dst a K := by
  cases a with
  | v T x =>
    cases T with
    | int k => exact det_chk _ (vconvI_det _ _)
    | str => exact det_chk _ (det_pure _)
    | _ => exact det_false
  | own n sg =>
    intro K hk
    unfold vconv at hk ⊢
    revert hk
    simp only
    generalize hget h n = s
    intro hk
    cases s with
    | arr T rows frz =>
      cases frz with
      | false => exact det_chk _ (strOfE_det T _) K hk
      | true => exact (det_chk _ det_false) K hk
    | _ => exact (det_chk _ det_false) K hk
  | _ => exact det_false
theorem vbnd_det (t : VT) (x : Option Operand) (d : Int) : Det fun K => vbnd t x d K := by
  cases x with
  | none => exact det_pure d
  | some x =>
    intro K hk
    unfold vbnd at hk ⊢
    simp only at hk ⊢
    generalize vo t x = a at hk ⊢
    cases a with
    | v T y =>
      cases T with
      | int k => exact det_pure _ K hk
      | _ => exact hk.elim
    | _ => exact hk.elim
theorem vslice_det (ty : TypeId → Option Ty) (h : VH) (t : VT) (tt : TypeId) (a : TA) (lo hi : Option Operand) : Det fun K => vslice ty h t tt a lo hi K := by
  cases a with
  | v T x =>
    cases T with
    | str => exact det_chk _ (det_bind (X := vbnd t hi (slen x)) (vbnd_det _ _ _) fun hi => det_bind (X := vbnd t lo 0) (vbnd_det _ _ _) fun lo => det_grd _ (det_pure _))
    | sl r => exact det_chk _ (det_bind (X := vbnd t hi (llen x)) (vbnd_det _ _ _) fun hi => det_bind (X := vbnd t lo 0) (vbnd_det _ _ _) fun lo => det_grd _ (det_pure _))
    | _ => exact det_false
  | own n sg =>
    intro K hk
    unfold vslice at hk ⊢
    revert hk
    simp only
    generalize hget h n = s
    intro hk
    cases s with
    | arr T rows frz => exact det_chk _ (det_bind (X := vbnd t hi (segLenI rows sg)) (vbnd_det _ _ _) fun hi => det_bind (X := vbnd t lo 0) (vbnd_det _ _ _) fun lo => det_grd _ (det_pure _)) K hk
    | _ => exact hk.elim
  | _ => exact det_false
theorem loadT_det (o : Option TA) : Det fun K => loadT o K := by
  cases o with
  | none => exact det_false
  | some a => exact det_pure a
theorem vload_det (ty : TypeId → Option Ty) (oth : TypeId → Bool) (h : VH) (tt : TypeId) (a : TA) : Det2 fun K => vload ty oth h tt a K := by
  cases a with
  | ptr n row fld =>
    intro K hk
    unfold vload at hk ⊢
    revert hk
    simp only
    generalize hget h n = s
    generalize ty tt = T
    intro hk
    cases s with
    | box cells =>
      cases T with
      | none => exact det2_chk _ (det2_of (X := loadT cells[fld]?) (fun c => c) (fun _ => []) (loadT_det _)) K hk
      | some T =>
        cases T with
        | cons f r => exact det2_chk _ (det2_of (X := packT (hup h (frzL h cells)) (.cons f r) (cells.drop fld)) (fun x => .v (.cons f r) x) (fun _ => frzL h cells) (packT_det _ _ _)) K hk
        | _ => exact det2_of (X := loadT cells[fld]?) (fun c => c) (fun _ => []) (loadT_det _) K hk
    | arr T' rows frz =>
      cases frz with
      | true => exact hk.elim
      | false =>
        cases T with
        | none => exact hk.elim
        | some T =>
          cases T with
          | cons f r => exact det2_chk _ (det2_of (X := castD (T := T') (T' := .cons f r) (rd T' rows row)) (fun x => .v (.cons f r) x) (fun _ => []) (castD_det _)) K hk
          | _ => exact det2_of (X := loadT _) (fun c => c) (fun _ => []) (loadT_det _) K hk
    | _ => exact hk.elim
  | rptr T' x fld =>
    intro K hk
    unfold vload at hk ⊢
    revert hk
    simp only
    generalize ty tt = T
    intro hk
    cases T with
    | none => exact hk.elim
    | some T =>
      cases T with
      | cons f r => exact det2_chk _ (det2_of (X := castD (T := T') (T' := .cons f r) x) (fun x => .v (.cons f r) x) (fun _ => []) (castD_det _)) K hk
      | _ => exact det2_of (X := loadT _) (fun c => c) (fun _ => []) (loadT_det _) K hk
  | _ => exact det2_false
theorem storeA_det (tT : Option Ty) (h : VH) (n : Nat) (row : Int) (fld : Nat) (a : TA) (s : Slot) : Det fun K => storeA tT h n row fld a K s := by
  cases s with
  | arr T rows frz =>
    cases frz with
    | true => exact det_false
    | false =>
      cases tT with
      | none => exact det_false
      | some tT => exact det_chk _ (det_map (X := setRow (hup h (frz1 h a)) tT T (rd T rows row) fld a) (fun y => frz1 h a ++ [(n, .arr T (wr rows row y) false)]) (setRow_det _ _ _ _ _ _))
  | _ => exact det_false
theorem vstore_det (ty : TypeId → Option Ty) (oth : TypeId → Bool) (h : VH) (tt : TypeId) (ad a : TA) : Det fun K => vstore ty oth h tt ad a K := by
  cases ad with
  | ptr n row fld =>
    intro K hk
    unfold vstore at hk ⊢
    revert hk
    simp only
    generalize hget h n = s
    generalize boxTAs h a = bx
    intro hk
    cases s with
    | box cells =>
      cases bx with
      | none => exact hk.elim
      | some cs => exact det_chk _ (det_pure _) K hk
    | arr T rows frz => exact storeA_det _ _ _ _ _ _ _ K hk
    | _ => exact hk.elim
  | _ => exact det_false
theorem vfieldAddr_det (ty : TypeId → Option Ty) (h : VH) (s : TypeId) (a : TA) (f : Nat) : Det fun K => vfieldAddr ty h s a f K := by
  intro K hk
  unfold vfieldAddr at hk ⊢
  revert hk
  generalize ty s = T
  intro hk
  cases T with
  | none => exact hk.elim
  | some T =>
    cases T with
    | cons u r =>
      cases a with
      | ptr n row fl => exact det_chk _ (det_chk _ (det_pure _)) K hk
      | rptr T x k => exact det_chk _ (det_pure _) K hk
      | _ => exact det_chk _ det_false K hk
    | _ => exact hk.elim
theorem vindexAddr_det (ty : TypeId → Option Ty) (h : VH) (tt : TypeId) (a i : TA) : Det fun K => vindexAddr ty h tt a i K := by
  cases i with
  | v T i =>
    cases T with
    | int k =>
      cases a with
      | v T xs =>
        cases T with
        | sl T => exact det_chk _ (det_grd _ (det_pure _))
        | _ => exact det_false
      | own n sg =>
        intro K hk
        unfold vindexAddr at hk ⊢
        revert hk
        simp only
        generalize hget h n = s
        intro hk
        cases s with
        | arr T rows frz =>
          cases frz with
          | true => exact det_chk _ (det_grd _ (det_pure _)) K hk
          | false => exact det_chk _ (det_grd _ (det_pure _)) K hk
        | _ => exact hk.elim
      | _ => exact det_false
    | _ => exact det_false
  | _ => exact det_false
theorem srcV_det (h : VH) (r : Ty) (a : TA) : Det fun K : List r.den → Prop => srcV h r a K := by
  cases a with
  | nilS r' => exact det_chk _ (det_pure _)
  | v T xs =>
    cases T with
    | sl r' => exact castD_det (T := .sl r') (T' := .sl r) xs
    | _ => exact det_false
  | own n sg =>
    intro K hk
    unfold srcV at hk ⊢
    revert hk
    simp only
    generalize hget h n = s
    intro hk
    cases s with
    | arr T rows frz => exact castD_det (T := .sl T) (T' := .sl r) (segOf rows sg) K hk
    | _ => exact hk.elim
  | _ => exact det_false
theorem vappend_det (ty : TypeId → Option Ty) (b : Nat) (h : VH) (tt tx : TypeId) (s x : TA) : Det2 fun K => vappend ty b h tt tx s x K := by
  intro K hk
  unfold vappend at hk ⊢
  revert hk
  generalize ty tt = T
  intro hk
  cases T with
  | none => exact hk.elim
  | some T =>
    cases T with
    | sl r =>
      cases s with
      | nilS r' => exact det2_chk _ (det2_bind (X := srcV h r x) (srcV_det h r x) fun news => det2_chk _ (det2_grd _ (det2_pure _ _))) K hk
      | own n sg =>
        revert hk
        simp only
        generalize hget h n = s
        intro hk
        cases s with
        | arr T rows frz =>
          cases frz with
          | false => exact det2_chk _ (det2_bind (X := srcV h r x) (srcV_det h r x) fun news => det2_bind (X := castD (T := .sl T) (T' := .sl r) (segOf rows sg)) (castD_det _) fun old => det2_grd _ (det2_pure _ _)) K hk
          | true => exact det2_chk _ (det2_bind (X := srcV h r x) (srcV_det h r x) fun news => det2_false) K hk
        | _ => exact det2_chk _ (det2_bind (X := srcV h r x) (srcV_det h r x) fun news => det2_false) K hk
      | _ => exact det2_chk _ (det2_bind (X := srcV h r x) (srcV_det h r x) fun news => det2_false) K hk
    | _ => exact hk.elim
theorem vcopy_det (ty : TypeId → Option Ty) (h : VH) (tt tx : TypeId) (d x : TA) : Det2 fun K => vcopy ty h tt tx d x K := by
  cases d with
  | own n sg =>
    intro K hk
    unfold vcopy at hk ⊢
    revert hk
    simp only
    generalize hget h n = s
    intro hk
    cases s with
    | arr T rows frz =>
      cases frz with
      | false => exact det2_chk _ (det2_bind (X := srcV h T x) (srcV_det h T x) fun news => det2_grd _ (det2_pure _ _)) K hk
      | true => exact hk.elim
    | _ => exact hk.elim
  | _ => exact det2_false
theorem vlen_det (ty : TypeId → Option Ty) (h : VH) (tt : TypeId) (a : TA) : Det fun K => vlen ty h tt a K := by
  cases a with
  | v T x =>
    cases T with
    | str => exact det_chk _ (det_pure _)
    | sl r => exact det_chk _ (det_pure _)
    | _ => exact det_false
  | nilS r => exact det_chk _ (det_pure _)
  | own n sg =>
    intro K hk
    unfold vlen at hk ⊢
    revert hk
    simp only
    generalize hget h n = s
    intro hk
    cases s with
    | arr T rows frz => exact det_chk _ (det_pure _) K hk
    | _ => exact hk.elim
  | _ => exact det_false
theorem vmake_det (ty : TypeId → Option Ty) (b : Nat) (tt : TypeId) (l c : TA) : Det2 fun K => vmake ty b tt l c K := by
  intro K hk
  unfold vmake at hk ⊢
  revert hk
  generalize ty tt = T
  intro hk
  split at hk
  · exact det2_grd _ (det2_grd _ (det2_pure _ _)) K hk
  · exact hk.elim
theorem vcall_det {en : VEn} {ren : En} (H : VOk en ren) (b : Nat) (h : VH) (f : FuncId) (as : List TA) : Det2 fun K => vcall en b h f as K := by
  intro K hk
  unfold vcall at hk ⊢
  revert hk
  generalize argsV (en.fr f) (hup h (frzAs (en.fr f) h as)) as = avs
  intro hk
  cases avs with
  | none => exact hk.elim
  | some avs =>
    obtain ⟨hc, hk⟩ := chk_iff.mp hk
    obtain ⟨rs, ios, h1, h2, _⟩ := H.call _ _ _ hk
    cases hu : iosU (ioV h as) ios with
    | none => rw [hu] at h1; exact h1.elim
    | some us =>
      rw [hu] at h1
      refine ⟨_, _, h1, fun K' hk' => chk_iff.mpr ⟨hc, h2 _ ?_⟩⟩
      rw [hu]
      exact hk'
theorem vmax_det (a b : TA) : Det fun K => vmax a b K := by
  intro K hk
  unfold vmax at hk ⊢
  split at hk
  · exact det_chk _ (det_pure _) K hk
  · exact hk.elim
theorem vbuiltin_det (en : VEn) (b : Nat) (h : VH) (t : VT) (f : Builtin) (ts : List TypeId) (xs : List Operand) : Det2 fun K => vbuiltin en b h t f ts xs K := by
  intro K hk
  unfold vbuiltin at hk
  split at hk
  · exact det2_of (X := vlen en.ty h _ _) (fun a => .a a) (fun _ => []) (vlen_det _ _ _ _) K hk
  · exact det2_map (X := vappend en.ty b h _ _ _ _) (fun a _ => .a a) (fun _ us => us) (vappend_det _ _ _ _ _ _ _) K hk
  · exact det2_map (X := vcopy en.ty h _ _ _ _) (fun a _ => .a a) (fun _ us => us) (vcopy_det _ _ _ _ _ _) K hk
  · exact det2_of (X := vmax _ _) (fun a => .a a) (fun _ => []) (vmax_det _ _) K hk
  · exact hk.elim
theorem vpick_det (a x y : TA) : Det fun K => vpick a x y K := by
  cases a with
  | v T b =>
    cases T with
    | bool => exact det_br _ (det_pure _) (det_pure _)
    | _ => exact det_false
  | _ => exact det_false
theorem vbuild_det (ty : TypeId → Option Ty) (h : VH) (tt : TypeId) (ps : List (Nat × TA)) : Det2 fun K => vbuild ty h tt ps K := by
  intro K hk
  unfold vbuild at hk ⊢
  revert hk
  generalize ty tt = T
  intro hk
  cases T with
  | none => exact hk.elim
  | some T =>
    cases T with
    | cons f r => exact det2_chk _ (det2_of (X := fillV _ (.cons f r) ps _) (fun x => .v (.cons f r) x) (fun _ => _) (fillV_det _ _ _ _)) K hk
    | _ => exact hk.elim
theorem vbuildSlice_det (ty : TypeId → Option Ty) (b : Nat) (h : VH) (tt : TypeId) (len : Nat) (ps : List (Nat × TA)) : Det2 fun K => vbuildSlice ty b h tt len ps K := by
  intro K hk
  unfold vbuildSlice at hk ⊢
  revert hk
  generalize ty tt = T
  intro hk
  cases T with
  | none => exact hk.elim
  | some T =>
    cases T with
    | sl r => exact det2_chk _ (det2_of (X := rowsV _ r len ps _) (fun _ => _) (fun _ => _) (rowsV_det _ _ _ _ _)) K hk
    | _ => exact hk.elim
theorem vext_det (h : VH) (a : TA) : Det fun K => vext h K a := det_chk _ (det_pure _)
theorem vindex_det (a i : TA) : Det fun K => vindex a i K := by
  intro K hk
  unfold vindex at hk ⊢
  split at hk
  · exact det_grd _ (det_pure _) K hk
  · exact hk.elim
theorem vfield_det (ty : TypeId → Option Ty) (s : TypeId) (a : TA) (f : Nat) : Det fun K => vfield ty s a f K := by
  intro K hk
  unfold vfield at hk ⊢
  revert hk
  generalize ty s = T
  intro hk
  split at hk
  · exact det_chk _ (loadT_det _) K hk
  · exact hk.elim
theorem vnil_det (h : VH) (a : TA) : Det fun K => vnil h a K := by
  cases a with
  | ptr n r f => exact det_chk _ (det_pure _)
  | _ => exact det_false
theorem vcallee_det {en : VEn} {ren : En} (H : VOk en ren) (b : Nat) (h : VH) (t : VT) (f : TA) (ts : List TypeId) (xs : List Operand) : Det2 fun K => vcallee en b h t f ts xs K := by
  cases f with
  | fn f => exact det2_chk _ (vcall_det H b h f _)
  | _ => exact det2_false
theorem vmove_det (ty : TypeId → Option Ty) (tt : TypeId) (t : VT) (x : Operand) : Det fun K => vmove ty tt t x K := by
  intro K hk
  cases x with
  | tmp i =>
    unfold vmove at hk ⊢
    unfold vmoveT at hk ⊢
    revert hk
    simp only
    generalize lk t i = v
    intro hk
    cases v with
    | none => exact det_pure _ K hk
    | some v =>
      cases v with
      | a x => exact det_pure _ K hk
      | tup xs => exact det_pure _ K hk
  | _ => exact det_pure _ K hk

theorem vop_det {en : VEn} {ren : En} (H : VOk en ren) (b : Nat) (h : VH) (t : VT) (o : Oper) : Det2 fun K => vop en b h t o K := by
  obtain ⟨dst, op, ty, sp, after, guard⟩ := o
  cases op with
  | move x => exact det2_of (X := vmove _ _ _ _) (fun a => a) (fun _ => []) (vmove_det _ _ _ _)
  | assign x => exact det2_pure _ _
  | pick c x y => exact det2_of (X := vpick _ _ _) (fun a => TV.a a) (fun _ => []) (vpick_det _ _ _)
  | alloc e =>
    intro K hk
    unfold vop at hk ⊢
    revert hk
    simp only
    generalize en.ty e = T
    intro hk
    cases T with
    | none => exact hk.elim
    | some T => exact det2_pure _ _ K hk
  | box e x =>
    intro K hk
    unfold vop at hk ⊢
    revert hk
    simp only
    generalize boxTAs h _ = T
    intro hk
    cases T with
    | none => exact hk.elim
    | some T => exact det2_pure _ _ K hk
  | build tt ps => exact det2_map (X := vbuild _ _ _ _) (fun a _ => TV.a a) (fun _ us => us) (vbuild_det _ _ _ _)
  | buildSlice tt len ps => exact det2_map (X := vbuildSlice _ _ _ _ _ _) (fun a _ => TV.a a) (fun _ us => us) (vbuildSlice_det _ _ _ _ _ _)
  | load tt x => exact det2_map (X := vload _ _ _ _ _) (fun a _ => TV.a a) (fun _ us => us) (vload_det _ _ _ _ _)
  | store tt x v => exact det2_chk _ (det2_of (X := vstore _ _ _ _ _ _) (fun _ => TV.a .dead) (fun us => us) (vstore_det _ _ _ _ _ _))
  | nilCheck x => exact det2_of (X := vnil _ _) (fun a => TV.a a) (fun _ => []) (vnil_det _ _)
  | binOp op tt x y _ => exact det2_of (X := vbin _ _ _ _ _ _) (fun a => TV.a a) (fun _ => []) (vbin_det _ _ _ _ _ _)
  | unOp op _ x => exact det2_of (X := vun _ _) (fun a => TV.a a) (fun _ => []) (vun_det _ _)
  | convert src dst x => exact det2_of (X := vconv _ _ _ _ _) (fun a => TV.a a) (fun _ => []) (vconv_det _ _ _ _ _)
  | makeSlice tt l c => exact det2_map (X := vmake _ _ _ _ _) (fun a _ => TV.a a) (fun _ us => us) (vmake_det _ _ _ _ _)
  | slice tt x lo hi m =>
    cases m with
    | none => exact det2_of (X := vslice _ _ _ _ _ _ _) (fun a => TV.a a) (fun _ => []) (vslice_det _ _ _ _ _ _ _)
    | some m => exact det2_false
  | fieldAddr s x f => exact det2_of (X := vfieldAddr _ _ _ _ _) (fun a => TV.a a) (fun _ => []) (vfieldAddr_det _ _ _ _ _)
  | field s x f => exact det2_of (X := vfield _ _ _ _) (fun a => TV.a a) (fun _ => []) (vfield_det _ _ _ _)
  | indexAddr tt x i => exact det2_of (X := vindexAddr _ _ _ _ _) (fun a => TV.a a) (fun _ => []) (vindexAddr_det _ _ _ _ _)
  | index tt x i => exact det2_chk _ (det2_of (X := vindex _ _) (fun a => TV.a a) (fun _ => []) (vindex_det _ _))
  | extract x i => exact det2_bind (X := loadT _) (loadT_det _) fun a => det2_of (X := fun K => vext h K a) (fun a => TV.a a) (fun _ => []) (vext_det h a)
  | call c =>
    obtain ⟨callee, args, ats⟩ := c
    cases callee with
    | builtin f => exact vbuiltin_det _ _ _ _ _ _ _
    | value f => exact vcallee_det H _ _ _ _ _ _
    | _ => exact det2_false
  | _ => exact det2_false
end Go.RX

/- VX, part 2: what an operation does with a typed state. -/
import Derived.Test.YtpcmbchibhcdiaaDoorVx1
namespace Go.RX
open Go

/-- a condition that the evaluation decides -/
def chk (b : Bool) (p : Prop) : Prop := cond b p False
theorem chk_iff {b : Bool} {p : Prop} : chk b p ↔ b = true ∧ p := by cases b <;> simp [chk]
abbrev VV := (T : Ty) × T.den
inductive VA where
  | v (T : Ty) (x : T.den)
  | io (cells : List VV)
inductive VR where
  | v (T : Ty) (x : T.den)
  | own (T : Ty) (rows : List T.den)
  | bx (cells : List VV)

/-- types' table, the contracts of what is called, which callees hand back nothing of their arguments -/
structure VEn where
  ty : TypeId → Option Ty
  oth : TypeId → Bool
  eqT : TypeId → Bool
  call : FuncId → List VA → (List VR → List (List VV) → Prop) → Prop
  fr : FuncId → Bool

abbrev Ups := List (Nat × Slot)
def hup : VH → Ups → VH
  | h, [] => h
  | h, u :: us => hup (u :: h) us

def cvTA : Value → TA
  | .int k n => .v (.int k) n
  | .bool b => .v .bool b
  | .string s => .v .str s
  | _ => .dead
def tvA : Option TV → TA
  | some (.a x) => x
  | _ => .dead
def vo (t : VT) : Operand → TA
  | .tmp i => tvA (lk t i)
  | .const v => cvTA v
  | .func f => .fn f
  | .global _ => .dead
def nilTy : Option Ty → TA
  | some (.sl r) => .nilS r
  | _ => .dead
def voT (ty : TypeId → Option Ty) (tt : TypeId) (t : VT) : Operand → TA
  | .const (.slice none 0 0) => nilTy (ty tt)
  | x => vo t x

def castD {T T' : Ty} (x : T.den) (K : T'.den → Prop) : Prop := if h : T = T' then K (h ▸ x) else False
/-- what is owned, as data: once it is frozen -/
def ownD (T : Ty) (sg : Option (Int × Int)) (K : List T.den → Prop) : Slot → Prop
  | .arr T' rows true => castD (T := .sl T') (T' := .sl T) (segOf rows sg) K
  | _ => False
def byteV : (T : Ty) → T.den → (UInt8 → Prop) → Prop
  | .int .u8, n, K => grd (idx n 256) (K (toB n))
  | _, _, _ => False
def asV (T' : Ty) (x : T'.den) : (T : Ty) → (T.den → Prop) → Prop
  | .byte, K => byteV T' x K
  | .int k, K => castD (T := T') (T' := .int k) x K
  | .bool, K => castD (T := T') (T' := .bool) x K
  | .str, K => castD (T := T') (T' := .str) x K
  | .sl r, K => castD (T := T') (T' := .sl r) x K
  | .cons _ _, _ => False
def asNil (r' : Ty) : (T : Ty) → (T.den → Prop) → Prop
  | .sl r, K => chk (decide (r' = r)) (K ([] : List r.den))
  | _, _ => False
def asOwn (sg : Option (Int × Int)) (s : Slot) : (T : Ty) → (T.den → Prop) → Prop
  | .sl r, K => ownD r sg K s
  | _, _ => False
/-- a value as the datum of a field or of a row of one cell -/
def asD (h : VH) (T : Ty) (a : TA) (K : T.den → Prop) : Prop := match a with
  | .v T' x => asV T' x T K
  | .nilS r' => asNil r' T K
  | .own n sg => asOwn sg (hget h n) T K
  | _ => False

/-- all of it is told -/
def isArr : Slot → Bool
  | .arr _ _ _ => true
  | _ => false
def solid (h : VH) : TA → Bool
  | .dead => false
  | .own n _ => isArr (hget h n)
  | .ptr n _ _ => live (hget h n)
  | _ => true
def solidL (h : VH) : List TA → Bool
  | [] => true
  | a :: as => solid h a && solidL h as
def frz1 (h : VH) : TA → Ups
  | .own n _ => match hget h n with | .arr T rows false => [(n, .arr T rows true)] | _ => []
  | _ => []
def frzL : VH → List TA → Ups
  | _, [] => []
  | h, a :: as => frz1 h a ++ frzL (hup h (frz1 h a)) as
def frzB (h : VH) : TA → Ups
  | .ptr n _ _ => match hget h n with | .box cells => frzL h cells | _ => []
  | _ => []
def frzA (fresh : Bool) (h : VH) (a : TA) : Ups :=
  (if fresh then [] else frz1 h a) ++ frzB (hup h (if fresh then [] else frz1 h a)) a
def frzAs (fresh : Bool) : VH → List TA → Ups
  | _, [] => []
  | h, a :: as => frzA fresh h a ++ frzAs fresh (hup h (frzA fresh h a)) as

def zeroTA : Ty → TA
  | .int k => .v (.int k) (0 : Int)
  | .bool => .v .bool false
  | .str => .v .str (⟨#[]⟩ : ByteArray)
  | .byte => .v (.int .u8) (0 : Int)
  | .sl r => .nilS r
  | .cons _ _ => .dead
def zeroTAs : Ty → List TA
  | .cons f r => zeroTA f :: zeroTAs r
  | T => [zeroTA T]
def cellTAs : (T : Ty) → T.den → List TA
  | .cons f r, x => mkV f x.1 :: cellTAs r x.2
  | .int k, x => [mkV (.int k) x]
  | .bool, x => [mkV .bool x]
  | .str, x => [mkV .str x]
  | .byte, x => [mkV .byte x]
  | .sl r, x => [mkV (.sl r) x]
/-- a field -/
def fldV : (T : Ty) → T.den → Nat → Option TA
  | .cons f _, x, 0 => some (mkV f x.1)
  | .cons _ r, x, i + 1 => fldV r x.2 i
  | .int k, x, 0 => some (mkV (.int k) x)
  | .bool, x, 0 => some (mkV .bool x)
  | .str, x, 0 => some (mkV .str x)
  | .byte, x, 0 => some (mkV .byte x)
  | .sl r, x, 0 => some (mkV (.sl r) x)
  | _, _, _ => none
/-- the cells that a value takes up in a box -/
def boxTAs (h : VH) : TA → Option (List TA)
  | .v T x => some (cellTAs T x)
  | .nilS r => some [.nilS r]
  | .own n sg => if isArr (hget h n) then some [.own n sg] else none
  | .ptr n r f => if live (hget h n) then some [.ptr n r f] else none
  | .rptr T x k => some [.rptr T x k]
  | .fn f => some [.fn f]
  | .dead => none
def setF (h : VH) : (T : Ty) → T.den → Nat → TA → (T.den → Prop) → Prop
  | .cons f _, x, 0, a, K => asD h f a fun y => K (y, x.2)
  | .cons _ r, x, i + 1, a, K => setF h r x.2 i a fun y => K (x.1, y)
  | T, _, 0, a, K => asD h T a K
  | _, _, _, _, _ => False
def fillV (h : VH) (T : Ty) : List (Nat × TA) → T.den → (T.den → Prop) → Prop
  | [], x, K => K x
  | (i, a) :: ps, x, K => setF h T x i a fun y => fillV h T ps y K
/-- a whole row -/
def rowD (h : VH) : (T : Ty) → TA → (T.den → Prop) → Prop
  | .cons f r, .v T' x, K => castD (T := T') (T' := .cons f r) x K
  | .cons _ _, _, _ => False
  | T, a, K => asD h T a K
def rowsV (h : VH) (T : Ty) (len : Nat) : List (Nat × TA) → List T.den → (List T.den → Prop) → Prop
  | [], xs, K => K xs
  | (i, a) :: ps, xs, K => chk (decide (i < len)) (rowD h T a fun y => rowsV h T len ps (xs.set i y) K)
def packT (h : VH) : (T : Ty) → List TA → (T.den → Prop) → Prop
  | .cons f r, a :: as, K => asD h f a fun x => packT h r as fun y => K (x, y)
  | .cons _ _, [], _ => False
  | T, a :: _, K => asD h T a K
  | _, _, _ => False
/-- a row with a field, or the whole of it, set -/
def setRow (h : VH) (tT T : Ty) (x : T.den) (fld : Nat) (a : TA) (K : T.den → Prop) : Prop := match a with
  | .v (.cons f r) y => chk (decide (fld = 0) && decide (tT = T)) (castD (T := .cons f r) (T' := T) y K)
  | a => chk tT.atom (setF h T x fld a K)

def ibinV (op : BinOp) (k : IntKind) (x y : Int) (K : TA → Prop) : Prop :=
  match op with
  | .add => K (.v (.int k) (iadd k x y))
  | .sub => K (.v (.int k) (isub k x y))
  | .mul => K (.v (.int k) (imul k x y))
  | .quo => grd (ine y 0) (K (.v (.int k) (iquo k x y)))
  | .rem => grd (ine y 0) (K (.v (.int k) (irem x y)))
  | .xor => K (.v (.int k) (ixor k x y))
  | .eql => K (.v .bool (ieq x y))
  | .neq => K (.v .bool (ine x y))
  | .lss => K (.v .bool (ilt x y))
  | .leq => K (.v .bool (ile x y))
  | .gtr => K (.v .bool (ilt y x))
  | .geq => K (.v .bool (ile y x))
  | _ => False
def sbinV (op : BinOp) (x y : ByteArray) (K : TA → Prop) : Prop :=
  match op with
  | .add => grd (fitsS (zadd (slen x) (slen y))) (K (.v .str (scat x y)))
  | .eql => K (.v .bool (seq x y))
  | .neq => K (.v .bool (sne x y))
  | .lss => K (.v .bool (sless x y))
  | _ => False
def bbinV (op : BinOp) (x y : Bool) (K : TA → Prop) : Prop :=
  match op with
  | .eql => K (.v .bool (beqB x y))
  | .neq => K (.v .bool (bneB x y))
  | _ => False
def tbinV (op : BinOp) (T : Ty) (x y : T.den) (K : TA → Prop) : Prop :=
  match op with
  | .eql => K (.v .bool (veq T x y))
  | .neq => K (.v .bool (vne T x y))
  | _ => False
/-- no slice in it -/
def Ty.flat : Ty → Bool
  | .sl _ => false
  | .cons f r => f.flat && r.flat
  | _ => true
def vbin (ty : TypeId → Option Ty) (eqT : TypeId → Bool) (tt : TypeId) (op : BinOp) (a b : TA) (K : TA → Prop) : Prop :=
  match a, b with
  | .v (.cons f r) x, .v T y => chk (decide (ty tt = some (.cons f r)) && eqT tt && Ty.flat (.cons f r)) (castD (T := T) (T' := .cons f r) y fun y => tbinV op (.cons f r) x y K)
  | .v .bool x, .v .bool y => chk (decide (ty tt = some .bool)) (bbinV op x y K)
  | .v (.int k) x, .v (.int k') y => chk (decide (k = k')) (ibinV op k x y K)
  | .v .str x, .v .str y => sbinV op x y K
  | _, _ => False
def vun (op : UnOp) (a : TA) (K : TA → Prop) : Prop :=
  match op, a with
  | .not, .v .bool b => K (.v .bool (bnot b))
  | .neg, .v (.int k) n => K (.v (.int k) (isub k 0 n))
  | _, _ => False
def strOfE (T : Ty) (rows : List T.den) (K : TA → Prop) : Prop := match T, rows with
  | .byte, l => grd (nonE l) (K (.v .str (strOf l)))
  | _, _ => False
def vconvI (d : Option Ty) (n : Int) (K : TA → Prop) : Prop := match d with
  | some (.int k) => K (.v (.int k) (iconv k n))
  | some .byte => K (.v (.int .u8) (iconv .u8 n))
  | _ => False
def isInt : Option Ty → Bool
  | some (.int _) => true
  | some .byte => true
  | _ => false
def vconv (ty : TypeId → Option Ty) (h : VH) (src dst : TypeId) (a : TA) (K : TA → Prop) : Prop :=
  match a with
  | .v (.int _) n => chk (isInt (ty src)) (vconvI (ty dst) n K)
  | .v .str s => chk (decide (ty src = some .str) && decide (ty dst = some .str)) (K (.v .str s))
  | .own n sg => chk (decide (ty src = some (.sl .byte)) && decide (ty dst = some .str)) (match hget h n with
    | .arr T rows false => strOfE T (segOf rows sg) K
    | _ => False)
  | _ => False
def vbnd (t : VT) (x : Option Operand) (d : Int) (K : Int → Prop) : Prop := match x with
  | none => K d
  | some x => match vo t x with | .v (.int _) i => K i | _ => False
def segLenI {α : Type} (rows : List α) : Option (Int × Int) → Int
  | none => llen rows
  | some (_, ln) => ln
def segAdd (lo ln : Int) : Option (Int × Int) → Int × Int
  | none => (lo, ln)
  | some (b, _) => (zadd b lo, ln)
def segAt (i : Int) : Option (Int × Int) → Int
  | none => i
  | some (b, _) => zadd b i
def isSl : Option Ty → Bool
  | some (.sl _) => true
  | _ => false
def elTy : Option Ty → Option Ty
  | some (.sl r) => some r
  | _ => none
def vslice (ty : TypeId → Option Ty) (h : VH) (t : VT) (tt : TypeId) (a : TA) (lo hi : Option Operand) (K : TA → Prop) : Prop :=
  match a with
  | .v .str s => chk (decide (ty tt = some .str)) (vbnd t hi (slen s) fun hi => vbnd t lo 0 fun lo => grd (inn lo hi (slen s)) (K (.v .str (ssub s lo hi))))
  | .v (.sl r) xs => chk (decide (elTy (ty tt) = some r)) (vbnd t hi (llen xs) fun hi => vbnd t lo 0 fun lo => grd (inn lo hi (llen xs)) (K (.v (.sl r) (seg xs lo (zsub hi lo)))))
  | .own n sg => match hget h n with
    | .arr T rows _ => chk (decide (elTy (ty tt) = some T)) (vbnd t hi (segLenI rows sg) fun hi => vbnd t lo 0 fun lo => grd (inn lo hi (segLenI rows sg)) (K (.own n (some (segAdd lo (zsub hi lo) sg)))))
    | _ => False
  | _ => False
def loadT (o : Option TA) (K : TA → Prop) : Prop := match o with | some a => K a | none => False
def vload (ty : TypeId → Option Ty) (oth : TypeId → Bool) (h : VH) (tt : TypeId) (a : TA) (K : TA → Ups → Prop) : Prop :=
  match a with
  | .ptr n row fld => match hget h n with
    | .box cells => (match ty tt with
      | some (.cons f r) => chk (solidL h cells) (packT (hup h (frzL h cells)) (.cons f r) (cells.drop fld) fun x => K (.v (.cons f r) x) (frzL h cells))
      | some _ => loadT cells[fld]? fun c => K c []
      | none => chk (oth tt) (loadT cells[fld]? fun c => K c []))
    | .arr T rows false => (match ty tt with
      | some (.cons f r) => chk (decide (fld = 0)) (castD (T := T) (T' := .cons f r) (rd T rows row) fun x => K (.v (.cons f r) x) [])
      | some _ => loadT (fldV T (rd T rows row) fld) fun c => K c []
      | none => False)
    | _ => False
  | .rptr T x fld => (match ty tt with
      | some (.cons f r) => chk (decide (fld = 0)) (castD (T := T) (T' := .cons f r) x fun x => K (.v (.cons f r) x) [])
      | some _ => loadT (fldV T x fld) fun c => K c []
      | none => False)
  | _ => False
def cellsFit (T : Option Ty) (oth : Bool) (n : Nat) : Bool := match T with | some T => n == T.w | none => oth && n == 1
def storeA (tT : Option Ty) (h : VH) (n : Nat) (row : Int) (fld : Nat) (a : TA) (K : Ups → Prop) : Slot → Prop
  | .arr T rows false => (match tT with
    | some tT => chk (solid h a) (setRow (hup h (frz1 h a)) tT T (rd T rows row) fld a fun y => K (frz1 h a ++ [(n, .arr T (wr rows row y) false)]))
    | none => False)
  | _ => False
def vstore (ty : TypeId → Option Ty) (oth : TypeId → Bool) (h : VH) (tt : TypeId) (ad a : TA) (K : Ups → Prop) : Prop :=
  match ad with
  | .ptr n row fld => (match hget h n with
    | .box cells => (match boxTAs h a with
      | some cs => chk (cellsFit (ty tt) (oth tt) cs.length && decide (fld + cs.length ≤ cells.length)) (K [(n, .box (cells.take fld ++ cs ++ cells.drop (fld + cs.length)))])
      | none => False)
    | .arr _ _ _ => storeA (ty tt) h n row fld a K (hget (hup h (frz1 h a)) n)
    | _ => False)
  | _ => False
def vfieldAddr (ty : TypeId → Option Ty) (h : VH) (s : TypeId) (a : TA) (f : Nat) (K : TA → Prop) : Prop :=
  match ty s with
  | some (.cons u r) => chk (decide (f < (Ty.cons u r).w)) (match a with
    | .ptr n row fl => chk (live (hget h n)) (K (.ptr n row (fl + f)))
    | .rptr T x k => K (.rptr T x (k + f))
    | _ => False)
  | _ => False
def vindexAddr (ty : TypeId → Option Ty) (h : VH) (tt : TypeId) (a i : TA) (K : TA → Prop) : Prop :=
  match i with
  | .v (.int _) i => (match a with
    | .v (.sl T) xs => chk (decide (elTy (ty tt) = some T)) (grd (idx i (llen xs)) (K (.rptr T (rd T xs i) 0)))
    | .own n sg => (match hget h n with
      | .arr T rows frz => chk (decide (elTy (ty tt) = some T)) (grd (idx i (segLenI rows sg)) (cond frz (K (.rptr T (rd T (segOf rows sg) i) 0)) (K (.ptr n (segAt i sg) 0))))
      | _ => False)
    | _ => False)
  | _ => False
/-- the rows that a slice holds, to be copied -/
def srcV (h : VH) (r : Ty) (a : TA) (K : List r.den → Prop) : Prop :=
  match a with
  | .nilS r' => chk (decide (r' = r)) (K [])
  | .v (.sl r') xs => castD (T := .sl r') (T' := .sl r) xs K
  | .own n sg => (match hget h n with
    | .arr T rows _ => castD (T := .sl T) (T' := .sl r) (segOf rows sg) K
    | _ => False)
  | _ => False
def vappend (ty : TypeId → Option Ty) (b : Nat) (h : VH) (tt tx : TypeId) (s x : TA) (K : TA → Ups → Prop) : Prop :=
  match ty tt with
  | some (.sl r) => chk (isSl (ty tx)) (srcV h r x fun news => (match s with
    | .nilS r' => chk (decide (r' = r)) (grd (fitsL (llen news)) (K (.own b none) [(b, .arr r news false)]))
    | .own n sg => (match hget h n with
      | .arr T rows false => castD (T := .sl T) (T' := .sl r) (segOf rows sg) fun old => grd (fitsL (zadd (segLenI rows sg) (llen news))) (K (.own b none) [(n, .gone), (b, .arr r (lapp old news) false)])
      | _ => False)
    | _ => False))
  | _ => False
def cpRows {α : Type} (rows news : List α) : Option (Int × Int) → List α
  | none => news
  | some (lo, ln) => splice rows news lo ln
def vcopy (ty : TypeId → Option Ty) (h : VH) (tt tx : TypeId) (d x : TA) (K : TA → Ups → Prop) : Prop :=
  match d with
  | .own n sg => (match hget h n with
    | .arr T rows false => chk (decide (ty tt = some (.sl T)) && isSl (ty tx)) (srcV h T x fun news => grd (ieq (llen news) (segLenI rows sg)) (K (.v (.int .i64) (segLenI rows sg)) [(n, .arr T (cpRows rows news sg) false)]))
    | _ => False)
  | _ => False
def vlen (ty : TypeId → Option Ty) (h : VH) (tt : TypeId) (a : TA) (K : TA → Prop) : Prop :=
  match a with
  | .v .str s => chk (decide (ty tt = some .str)) (K (.v (.int .i64) (slen s)))
  | .v (.sl _) xs => chk (isSl (ty tt)) (K (.v (.int .i64) (llen xs)))
  | .nilS _ => chk (isSl (ty tt)) (K (.v (.int .i64) (0 : Int)))
  | .own n sg => (match hget h n with
    | .arr _ rows _ => chk (isSl (ty tt)) (K (.v (.int .i64) (segLenI rows sg)))
    | _ => False)
  | _ => False
def vmake (ty : TypeId → Option Ty) (b : Nat) (tt : TypeId) (l c : TA) (K : TA → Ups → Prop) : Prop :=
  match ty tt, l, c with
  | some (.sl r), .v (.int _) l, .v (.int _) c => grd (ieq l c) (grd (mkOk l) (K (.own b none) [(b, .arr r (rep l r.dfl) false)]))
  | _, _, _ => False

/-! ### calls -/
def cellVV (h : VH) : TA → Option VV
  | .v (.cons _ _) _ => none
  | .v T x => some ⟨T, x⟩
  | .nilS r => some ⟨.sl r, ([] : List r.den)⟩
  | .own n sg => match hget h n with | .arr T rows true => some ⟨.sl T, segOf rows sg⟩ | _ => none
  | _ => none
def cellsVV (h : VH) : List TA → Option (List VV)
  | [] => some []
  | a :: as => match cellVV h a, cellsVV h as with | some x, some xs => some (x :: xs) | _, _ => none
def argV (fresh : Bool) (h : VH) : TA → Option VA
  | .v T x => some (.v T x)
  | .nilS r => some (.v (.sl r) ([] : List r.den))
  | .own n sg => match hget h n with | .arr T rows frz => if fresh || frz then some (.v (.sl T) (segOf rows sg)) else none | _ => none
  | .ptr n _ fld => match hget h n with | .box cells => if fld = 0 then (match cellsVV h cells with | some cs => some (.io cs) | none => none) else none | _ => none
  | _ => none
def argsV (fresh : Bool) (h : VH) : List TA → Option (List VA)
  | [] => some []
  | a :: as => match argV fresh h a, argsV fresh h as with | some x, some xs => some (x :: xs) | _, _ => none
def ioV (h : VH) : List TA → List Nat
  | [] => []
  | .ptr n _ _ :: as => n :: ioV h as
  | _ :: as => ioV h as
def vvTA : VV → TA
  | ⟨T, x⟩ => .v T x
def iosU : List Nat → List (List VV) → Option Ups
  | [], [] => some []
  | n :: ns, c :: cs => match iosU ns cs with | some us => some ((n, .box (c.map vvTA)) :: us) | none => none
  | _, _ => none
def retTA (b : Nat) : List VR → List TA × Ups
  | [] => ([], [])
  | .v T x :: rs => (.v T x :: (retTA b rs).1, (retTA b rs).2)
  | .own T rows :: rs => (.own b none :: (retTA (b + 1) rs).1, (b, .arr T rows false) :: (retTA (b + 1) rs).2)
  | .bx cells :: rs => (.ptr b 0 0 :: (retTA (b + 1) rs).1, (b, .box (cells.map vvTA)) :: (retTA (b + 1) rs).2)
def packTV : List TA → TV
  | [a] => .a a
  | as => .tup as
def voTs (ty : TypeId → Option Ty) (t : VT) (ts : List TypeId) (xs : List Operand) : List TA := (ts.zip xs).map fun p => voT ty p.1 t p.2
/-- the boxes that are handed on -/
def solidB (h : VH) : TA → Bool
  | .ptr n _ _ => match hget h n with | .box cells => solidL h cells | _ => false
  | _ => true
def okAs (fresh : Bool) : VH → List TA → Bool
  | _, [] => true
  | h, a :: as => solid h a && solidB (hup h (if fresh then [] else frz1 h a)) a && okAs fresh (hup h (frzA fresh h a)) as
def vcall (en : VEn) (b : Nat) (h : VH) (f : FuncId) (as : List TA) (K : TV → Ups → Prop) : Prop :=
  match argsV (en.fr f) (hup h (frzAs (en.fr f) h as)) as with
  | some avs => chk (decide (ioV h as).Nodup && solidL h as && okAs (en.fr f) h as) (en.call f avs fun rs ios => (match iosU (ioV h as) ios with
    | some us => K (packTV (retTA b rs).1) (frzAs (en.fr f) h as ++ us ++ (retTA b rs).2)
    | none => False))
  | none => False
def vmax (a b : TA) (K : TA → Prop) : Prop := match a, b with
  | .v (.int k) x, .v (.int k') y => chk (decide (k = k')) (K (.v (.int k) (imax x y)))
  | _, _ => False
def vbuiltin (en : VEn) (b : Nat) (h : VH) (t : VT) (f : Builtin) (ts : List TypeId) (xs : List Operand) (K : TV → Ups → Prop) : Prop :=
  match f, ts, xs with
  | .len, [tt], [x] => vlen en.ty h tt (voT en.ty tt t x) fun a => K (.a a) []
  | .append, [tt, tx], [s, x] => vappend en.ty b h tt tx (voT en.ty tt t s) (voT en.ty tx t x) fun a us => K (.a a) us
  | .copy, [tt, tx], [s, x] => vcopy en.ty h tt tx (voT en.ty tt t s) (voT en.ty tx t x) fun a us => K (.a a) us
  | .max, _, [x, y] => vmax (vo t x) (vo t y) fun a => K (.a a) []
  | _, _, _ => False
def vpick (a x y : TA) (K : TA → Prop) : Prop := match a with
  | .v .bool b => br b (K x) (K y)
  | _ => False
/-- one after the other -/
def solidS : VH → List TA → Bool
  | _, [] => true
  | h, a :: as => solid h a && solidS (hup h (frz1 h a)) as
def vparts (t : VT) (ps : List (Nat × Operand)) : List (Nat × TA) := ps.map fun p => (p.1, vo t p.2)
def partTAs (ps : List (Nat × TA)) : List TA := ps.map (·.2)
def vbuild (ty : TypeId → Option Ty) (h : VH) (tt : TypeId) (ps : List (Nat × TA)) (K : TA → Ups → Prop) : Prop :=
  match ty tt with
  | some (.cons f r) => chk (solidS h (partTAs ps)) (fillV (hup h (frzL h (partTAs ps))) (.cons f r) ps (Ty.dfl (.cons f r)) fun x => K (.v (.cons f r) x) (frzL h (partTAs ps)))
  | _ => False
def vbuildSlice (ty : TypeId → Option Ty) (b : Nat) (h : VH) (tt : TypeId) (len : Nat) (ps : List (Nat × TA)) (K : TA → Ups → Prop) : Prop :=
  match ty tt with
  | some (.sl r) => chk (decide (len * r.w ≤ 16777216) && solidS h (partTAs ps)) (rowsV (hup h (frzL h (partTAs ps))) r len ps (List.replicate len r.dfl) fun rows => K (.own b none) (frzL h (partTAs ps) ++ [(b, .arr r rows false)]))
  | _ => False
def vext (h : VH) (K : TA → Prop) (a : TA) : Prop := chk (!frozen h a) (K a)
def vopTup (t : VT) (i : Nat) : Operand → Option TA
  | .tmp j => match lk t j with | some (.tup xs) => xs[i]? | _ => none
  | _ => none
def vindex (a i : TA) (K : TA → Prop) : Prop := match a, i with
  | .v .str s, .v (.int _) i => grd (idx i (slen s)) (K (.v (.int .u8) (bt s i)))
  | _, _ => False
def vfield (ty : TypeId → Option Ty) (s : TypeId) (a : TA) (f : Nat) (K : TA → Prop) : Prop := match ty s, a with
  | some (.cons u r), .v T x => chk (decide (T = .cons u r)) (loadT (fldV T x f) K)
  | _, _ => False
def vnil (h : VH) (a : TA) (K : TA → Prop) : Prop := match a with
  | .ptr n r f => chk (live (hget h n)) (K (.ptr n r f))
  | _ => False
def vcallee (en : VEn) (b : Nat) (h : VH) (t : VT) (f : TA) (ts : List TypeId) (xs : List Operand) (K : TV → Ups → Prop) : Prop := match f with
  | .fn f => chk (decide (ts.length = xs.length)) (vcall en b h f (voTs en.ty t ts xs) K)
  | _ => False

def vmoveT (a : TA) (K : TV → Prop) : Option TV → Prop
  | some (.tup xs) => K (.tup xs)
  | _ => K (.a a)
def vmove (ty : TypeId → Option Ty) (tt : TypeId) (t : VT) (x : Operand) (K : TV → Prop) : Prop := match x with
  | .tmp i => vmoveT (tvA (lk t i)) K (lk t i)
  | x => K (.a (voT ty tt t x))
/-- an operation: the value, and what becomes of memory; new objects are named from b on -/
def vop (en : VEn) (b : Nat) (h : VH) (t : VT) (o : Oper) (K : TV → Ups → Prop) : Prop :=
  match o.op with
  | .move x => vmove en.ty o.type t x fun a => K a []
  | .assign x => K (.a (voT en.ty o.type t x)) []
  | .pick c x y => vpick (vo t c) (voT en.ty o.type t x) (voT en.ty o.type t y) fun a => K (.a a) []
  | .alloc e => (match en.ty e with | some T => K (.a (.ptr b 0 0)) [(b, .box (zeroTAs T))] | none => False)
  | .box e x => (match boxTAs h (voT en.ty e t x) with | some cs => K (.a (.ptr b 0 0)) [(b, .box cs)] | none => False)
  | .build tt ps => vbuild en.ty h tt (vparts t ps.toList) fun a us => K (.a a) us
  | .buildSlice tt len ps => vbuildSlice en.ty b h tt len (vparts t ps.toList) fun a us => K (.a a) us
  | .load tt x => vload en.ty en.oth h tt (vo t x) fun a us => K (.a a) us
  | .store tt x v => chk o.dst.isNone (vstore en.ty en.oth h tt (vo t x) (voT en.ty tt t v) fun us => K (.a .dead) us)
  | .nilCheck x => vnil h (vo t x) fun a => K (.a a) []
  | .binOp op tt x y _ => vbin en.ty en.eqT tt op (vo t x) (vo t y) fun a => K (.a a) []
  | .unOp op _ x => vun op (vo t x) fun a => K (.a a) []
  | .convert src dst x => vconv en.ty h src dst (vo t x) fun a => K (.a a) []
  | .makeSlice tt l c => vmake en.ty b tt (vo t l) (vo t c) fun a us => K (.a a) us
  | .slice tt x lo hi none => vslice en.ty h t tt (vo t x) lo hi fun a => K (.a a) []
  | .fieldAddr s x f => vfieldAddr en.ty h s (vo t x) f fun a => K (.a a) []
  | .field s x f => vfield en.ty s (vo t x) f fun a => K (.a a) []
  | .indexAddr tt x i => vindexAddr en.ty h tt (vo t x) (vo t i) fun a => K (.a a) []
  | .index tt x i => chk (decide (en.ty tt = some .str)) (vindex (vo t x) (vo t i) fun a => K (.a a) [])
  | .extract x i => loadT (vopTup t i x) (vext h fun a => K (.a a) [])
  | .call { callee := .builtin f, args, argTypes } => vbuiltin en b h t f argTypes.toList args.toList K
  | .call { callee := .value f, args, argTypes } => vcallee en b h t (vo t f) argTypes.toList args.toList K
  | _ => False
end Go.RX

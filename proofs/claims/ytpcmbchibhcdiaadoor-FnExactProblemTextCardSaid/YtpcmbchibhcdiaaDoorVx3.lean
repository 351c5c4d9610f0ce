/- VX, part 3: code. -/
import Derived.Test.YtpcmbchibhcdiaaDoorVx2
namespace Go.RX
open Go

def VSt.ap (s : VSt) (nx : Nat) (dst : Option Tmp) (v : TV) (us : Ups) : VSt := ⟨match dst with | some d => (d, v) :: s.t | none => s.t, hup s.h us, nx⟩
def dstOk (nt : Nat) : Option Tmp → Bool
  | some d => Nat.blt d nt
  | none => true
def nthOper : List Oper → Nat → Option Oper
  | [], _ => none
  | o :: _, 0 => some o
  | _ :: os, n + 1 => nthOper os n
def gtmp (all : List Oper) (j : Nat) : Option Tmp := match nthOper all j with | some o => o.dst | none => none
def bsel (b w : Bool) (X Y : VSt → Prop) (st : VSt) : Prop := match b, w with
  | true, true => X st
  | false, false => X st
  | _, _ => Y st
def vguardB (st : VSt) (d : Tmp) (want : Bool) (X Y : VSt → Prop) : Option TV → Prop
  | some (.tup []) => Y st
  | some (.a (.v .bool b)) => br b (bsel true want X Y ⟨(d, .a (.v .bool true)) :: st.t, st.h, st.nx⟩) (bsel false want X Y ⟨(d, .a (.v .bool false)) :: st.t, st.h, st.nx⟩)
  | _ => False
def vguard (st : VSt) (d : Option Tmp) (want : Bool) (X Y : VSt → Prop) : Prop := match d with
  | some d => vguardB st d want X Y (lk st.t d)
  | none => False
def skipO (o : Oper) (K : VSt → Prop) (st : VSt) : Prop := K (st.ap st.nx o.dst (.tup []) [])
def vops (en : VEn) (nt : Nat) (all : List Oper) : List Oper → (VSt → Prop) → VSt → Prop
  | [], K, st => K st
  | o :: os, K, st => chk (dstOk nt o.dst) (match o.guard with
    | none => vop en st.nx st.h st.t o fun v us => vops en nt all os K (st.ap (st.nx + 8) o.dst v us)
    | some (j, want) => vguard st (gtmp all j) want (fun st => vop en st.nx st.h st.t o fun v us => vops en nt all os K (st.ap (st.nx + 8) o.dst v us)) (skipO o (vops en nt all os K)))

/-! ### regions that draw their order: one order is evaluated; what is unordered must be independent -/
def namesL : List TA → List Nat
  | [] => []
  | .own n _ :: as => n :: namesL as
  | .ptr n _ _ :: as => n :: namesL as
  | _ :: as => namesL as
def fpS : Slot → List Nat
  | .box cells => namesL cells
  | _ => []
def fpA (h : VH) : TA → List Nat
  | .own n _ => [n]
  | .ptr n _ _ => n :: fpS (hget h n)
  | _ => []
def fpL (h : VH) (t : VT) : List Operand → List Nat
  | [] => []
  | x :: xs => fpA h (vo t x) ++ fpL h t xs
/-- what an operation reads of memory -/
def fpO (h : VH) (t : VT) (o : Oper) : List Nat := match o.op with
  | .move _ => []
  | .assign _ => []
  | .pick _ _ _ => []
  | .alloc _ => []
  | .nilCheck _ => []
  | .binOp _ _ _ _ _ => []
  | .unOp _ _ _ => []
  | .fieldAddr _ _ _ => []
  | .field _ _ _ => []
  | .index _ _ _ => []
  | .extract x i => (match vopTup t i x with | some a => fpA h a | none => [])
  | op => fpL h t op.operands.toList
/-- objects that must be there -/
def lvO (t : VT) (o : Oper) : List Nat := match o.op with
  | .nilCheck x => namesL [vo t x]
  | .fieldAddr _ x _ => namesL [vo t x]
  | _ => []
def memN (n : Nat) : List Nat → Bool
  | [] => false
  | m :: l => cond (Nat.beq m n) true (memN n l)
def disjN : List Nat → List Nat → Bool
  | [], _ => true
  | n :: l, m => cond (memN n m) false (disjN l m)
structure AccE where
  i : Nat
  fp : List Nat
  lv : List Nat
  wr : List Nat
  kl : List Nat
def indep (bef : Nat) (x : AccE) : List AccE → Bool
  | [] => true
  | a :: l => (bef.testBit a.i || (disjN x.wr a.fp && disjN x.wr a.wr && disjN a.wr x.fp && disjN x.kl a.lv && disjN a.kl x.lv)) && indep bef x l
def upN : Ups → List Nat
  | [] => []
  | u :: us => u.1 :: upN us
def klN (h : VH) : Ups → List Nat
  | [] => []
  | u :: us => cond (live u.2 && live (hget h u.1)) (klN h us) (u.1 :: klN h us)
def accOf (i : Nat) (h : VH) (t : VT) (o : Oper) (us : Ups) : AccE := ⟨i, fpO h t o, lvO t o, upN us, klN h us⟩
def vreg (en : VEn) (nt : Nat) (all : List Oper) (bef : Nat → Nat) (base : Nat) : List Oper → Nat → List AccE → (VSt → Prop) → VSt → Prop
  | [], _, _, K, st => K st
  | o :: os, i, acc, K, st => chk (dstOk nt o.dst) (match o.guard with
    | none => vop en (base + 8 * i) st.h st.t o fun v us => chk (indep (bef i) (accOf i st.h st.t o us) acc) (vreg en nt all bef base os (i + 1) (accOf i st.h st.t o us :: acc) K (st.ap st.nx o.dst v us))
    | some (j, want) => vguard st (gtmp all j) want (fun st => vop en (base + 8 * i) st.h st.t o fun v us => chk (indep (bef i) (accOf i st.h st.t o us) acc) (vreg en nt all bef base os (i + 1) (accOf i st.h st.t o us :: acc) K (st.ap st.nx o.dst v us)))
        (skipO o (vreg en nt all bef base os (i + 1) acc K)))
def tmpsOf : List Operand → List Nat
  | [] => []
  | .tmp t :: xs => t :: tmpsOf xs
  | _ :: xs => tmpsOf xs
def usesO (all : List Oper) (o : Oper) : List Nat := (match o.guard with | some (j, _) => (match gtmp all j with | some d => [d] | none => []) | none => []) ++ tmpsOf o.op.operands.toList
def dstNot (d : Option Tmp) (l : List Nat) : Bool := match d with | some d => !memN d l | none => true
def dstNe (d e : Option Tmp) : Bool := match d, e with | some d, some e => !Nat.beq d e | _, _ => true
/-- what an operation reads is written, in the region, by those before it alone; each writes a temporary of its own -/
def regOk1 (all : List Oper) (bef : Nat → Nat) (i : Nat) (o : Oper) : Nat → List Oper → Bool
  | _, [] => true
  | j, u :: us => cond (Nat.blt j i) ((bef i).testBit j || (dstNe o.dst u.dst && (dstNot u.dst (usesO all o) && dstNot o.dst (usesO all u)))) true && regOk1 all bef i o (j + 1) us
def afterB (i : Nat) : List Edge → Bool
  | [] => true
  | e :: es => Nat.blt e.on i && afterB i es
def regOks (all : List Oper) (bef : Nat → Nat) : Nat → List Oper → Bool
  | _, [] => true
  | i, o :: os => afterB i o.after.toList && regOk1 all bef i o 0 all && regOks all bef (i + 1) os
def regOk (all : List Oper) (bef : Nat → Nat) : Bool := regOks all bef 0 all
def befOf (ops : Array Oper) (i : Nat) : Nat := (Region.before ops).getD i 0

/-! ### loops -/
def isBox : Slot → Bool
  | .box _ => true
  | _ => false
inductive SA where
  | dead
  | v (T : Ty)
  | nilS (r : Ty)
  | own (n : Nat)
  | seg (n : Nat)
  | ptr (n : Nat) (fld : Nat)
  | ptr0 (n : Nat) (fld : Nat)
  | rptr (T : Ty) (fld : Nat)
  | fn (f : FuncId)
inductive SO where
  | arr (T : Ty)
  | frz (T : Ty)
  | box (cells : List SA)
structure Shape where
  t : List (Nat × SA)
  h : List (Nat × SO)
  nx : Nat
@[reducible] def SA.den : SA → Type → Type
  | .v T, R => T.den × R
  | .seg _, R => (Int × Int) × R
  | .ptr _ _, R => Int × R
  | .rptr T _, R => T.den × R
  | _, R => R
@[reducible] def tDen : List (Nat × SA) → Type
  | [] => Unit
  | p :: l => p.2.den (tDen l)
@[reducible] def cDen : List SA → Type
  | [] => Unit
  | a :: l => a.den (cDen l)
@[reducible] def hDen : List (Nat × SO) → Type
  | [] => Unit
  | (_, .arr T) :: l => List T.den × hDen l
  | (_, .frz T) :: l => List T.den × hDen l
  | (_, .box cells) :: l => cDen cells × hDen l
@[reducible] def Shape.den (sh : Shape) : Type := tDen sh.t × hDen sh.h

def SA.enc {R : Type} : (a : SA) → a.den R → TA
  | .dead, _ => .dead
  | .v T, x => .v T x.1
  | .nilS r, _ => .nilS r
  | .own n, _ => .own n none
  | .seg n, x => .own n (some x.1)
  | .ptr n k, x => .ptr n x.1 k
  | .ptr0 n k, _ => .ptr n 0 k
  | .rptr T k, x => .rptr T x.1 k
  | .fn f, _ => .fn f
def SA.rest {R : Type} : (a : SA) → a.den R → R
  | .dead, x => x
  | .v _, x => x.2
  | .nilS _, x => x
  | .own _, x => x
  | .seg _, x => x.2
  | .ptr _ _, x => x.2
  | .ptr0 _ _, x => x
  | .rptr _ _, x => x.2
  | .fn _, x => x
def tEnc : (l : List (Nat × SA)) → tDen l → VT
  | [], _ => []
  | p :: l, x => (p.1, .a (p.2.enc x)) :: tEnc l (p.2.rest x)
def cEnc : (l : List SA) → cDen l → List TA
  | [], _ => []
  | a :: l, x => a.enc x :: cEnc l (a.rest x)
def hEnc : (l : List (Nat × SO)) → hDen l → VH
  | [], _ => []
  | (n, .arr T) :: l, x => (n, .arr T x.1 false) :: hEnc l x.2
  | (n, .frz T) :: l, x => (n, .arr T x.1 true) :: hEnc l x.2
  | (n, .box cells) :: l, x => (n, .box (cEnc cells x.1)) :: hEnc l x.2
def Shape.enc (sh : Shape) (x : sh.den) : VSt := ⟨tEnc sh.t x.1, hEnc sh.h x.2, sh.nx⟩

/-- a nil slice becomes an empty one of our own, or data -/
def nilFix1 (vs : VSt) (i : Nat) (sa : SA) : Option TV → VSt
  | some (.a (.nilS r)) => (match sa with
    | .own _ => ⟨(i, .a (.own vs.nx none)) :: vs.t, (vs.nx, .arr r [] false) :: vs.h, vs.nx + 1⟩
    | .seg _ => ⟨(i, .a (.own vs.nx (some (0, 0)))) :: vs.t, (vs.nx, .arr r [] false) :: vs.h, vs.nx + 1⟩
    | .v _ => ⟨(i, .a (.v (.sl r) ([] : List r.den))) :: vs.t, vs.h, vs.nx⟩
    | _ => vs)
  | _ => vs
def nilFix : List (Nat × SA) → VSt → VSt
  | [], vs => vs
  | p :: l, vs => nilFix l (nilFix1 vs p.1 p.2 (lk vs.t p.1))
/-- names of a shape, and the objects that they stand for -/
abbrev SMap := List (Nat × Nat)
def srcTA : SA → TA → SMap
  | .own n, .own m _ => [(n, m)]
  | .seg n, .own m _ => [(n, m)]
  | .ptr n _, .ptr m _ _ => [(n, m)]
  | .ptr0 n _, .ptr m _ _ => [(n, m)]
  | _, _ => []
def srcT (t : VT) : List (Nat × SA) → SMap
  | [] => []
  | p :: l => srcTA p.2 (tvA (lk t p.1)) ++ srcT t l
def srcC : List SA → List TA → SMap
  | a :: as, b :: bs => srcTA a b ++ srcC as bs
  | _, _ => []
def srcB (cells : List SA) : Slot → SMap
  | .box cs => srcC cells cs
  | _ => []
def srcH (h : VH) (mp : SMap) : List (Nat × SO) → SMap
  | [] => []
  | (n, .box cells) :: l => (match lk mp n with | some m => srcB cells (hget h m) | none => []) ++ srcH h mp l
  | _ :: l => srcH h mp l
/-- the objects of arguments keep their names -/
def srcIo : List (Nat × SO) → SMap
  | [] => []
  | p :: l => cond (Nat.blt p.1 4) ((p.1, p.1) :: srcIo l) (srcIo l)
def mapOk1 (p : Nat × Nat) : SMap → Bool
  | [] => true
  | q :: l => (Nat.beq p.1 q.1 == Nat.beq p.2 q.2) && mapOk1 p l
/-- one object for each name, one name for each object -/
def mapOk (keys : List (Nat × SO)) : SMap → Bool
  | [] => true
  | p :: l => mapOk1 p l && ((Nat.ble 4 p.1 && Nat.ble 4 p.2) || Nat.beq p.1 p.2) && memN p.1 (keys.map (·.1)) && mapOk keys l
def keysOk (nx : Nat) (mp : SMap) : List (Nat × SO) → Bool
  | [] => true
  | p :: l => Nat.blt p.1 nx && (lk mp p.1).isSome && !memN p.1 (l.map (·.1)) && keysOk nx mp l
def boxesOk (mp1 : SMap) : List (Nat × SO) → Bool
  | [] => true
  | (n, .box _) :: l => (lk mp1 n).isSome && boxesOk mp1 l
  | _ :: l => boxesOk mp1 l

def decV (h : VH) (T : Ty) : TA → (T.den → Prop) → Prop
  | .v T' x, K => castD (T := T') (T' := T) x K
  | .own n sg, K => asOwn sg (hget h n) T K
  | _, _ => False
def segOfRows {R : Type} (K : ((R → (Int × Int) × R) → Prop)) : Slot → Prop
  | .arr _ rows _ => K fun r => ((0, llen rows), r)
  | _ => False
/-- the part of a value that a shape names -/
def SA.dec {R : Type} (h : VH) : (a : SA) → TA → ((R → a.den R) → Prop) → Prop
  | .v T, b, K => decV h T b fun x => K fun r => (x, r)
  | .nilS r, .nilS r', K => chk (decide (r' = r)) (K fun r => r)
  | .own _, .own _ none, K => K fun r => r
  | .seg _, .own _ (some p), K => K fun r => (p, r)
  | .seg _, .own m none, K => segOfRows K (hget h m)
  | .ptr _ k, .ptr _ row k', K => chk (Nat.beq k k') (K fun r => (row, r))
  | .ptr0 _ k, .ptr m _ k', K => chk (Nat.beq k k' && isBox (hget h m)) (K fun r => r)
  | .rptr T k, .rptr T' x k', K => chk (Nat.beq k k') (castD (T := T') (T' := T) x fun x => K fun r => (x, r))
  | .fn f, .fn f', K => chk (Nat.beq f f') (K fun r => r)
  | _, _, _ => False
def tDec (h : VH) (t : VT) : (l : List (Nat × SA)) → (tDen l → Prop) → Prop
  | [], K => K ()
  | p :: l, K => p.2.dec h (tvA (lk t p.1)) fun g => tDec h t l fun r => K (g r)
def cDec (h : VH) : (l : List SA) → List TA → (cDen l → Prop) → Prop
  | [], [], K => K ()
  | a :: l, b :: bs, K => a.dec h b fun g => cDec h l bs fun r => K (g r)
  | _, _, _ => False
def arrDec (T : Ty) (frz : Bool) (K : List T.den → Prop) : Slot → Prop
  | .arr T' rows fz => chk (fz == frz) (castD (T := .sl T') (T' := .sl T) rows K)
  | _ => False
def boxDec (h : VH) (cells : List SA) (K : cDen cells → Prop) : Slot → Prop
  | .box cs => cDec h cells cs K
  | _ => False
def mget (mp : SMap) (n : Nat) : Nat := match lk mp n with | some m => m | none => n
def hDec (h : VH) (mp : SMap) : (l : List (Nat × SO)) → (hDen l → Prop) → Prop
  | [], K => K ()
  | (n, .arr T) :: l, K => arrDec T false (fun x => hDec h mp l fun r => K (x, r)) (hget h (mget mp n))
  | (n, .frz T) :: l, K => arrDec T true (fun x => hDec h mp l fun r => K (x, r)) (hget h (mget mp n))
  | (n, .box cells) :: l, K => boxDec h cells (fun x => hDec h mp l fun r => K (x, r)) (hget h (mget mp n))
def Shape.mp1 (sh : Shape) (st : VSt) : SMap := srcT st.t sh.t ++ srcIo sh.h
def Shape.mp (sh : Shape) (st : VSt) : SMap := sh.mp1 st ++ srcH st.h (sh.mp1 st) sh.h
def Shape.dec1 (sh : Shape) (st : VSt) (K : sh.den → Prop) : Prop :=
  chk (Nat.ble 4 sh.nx && mapOk sh.h (sh.mp st) && keysOk sh.nx (sh.mp st) sh.h && boxesOk (sh.mp1 st) sh.h) (tDec st.h st.t sh.t fun x => hDec st.h (sh.mp st) sh.h fun y => K (x, y))
def Shape.dec (sh : Shape) (st : VSt) (K : sh.den → Prop) : Prop := sh.dec1 (nilFix sh.t st) K

def itP {S : Type} (F : (S → Prop) → S → Prop) : Nat → S → Prop
  | 0, _ => False
  | k + 1, s => F (itP F k) s
--VOPS
/-- a loop that comes to its end -/
def LoopP {S : Type} (F : (S → Prop) → S → Prop) (s : S) : Prop := ∃ k, itP F k s
--END
inductive Ann where
  | o
  | s (a b : Ann)
  | l (sh : Shape) (a : Ann)
def Ann.fst : Ann → Ann
  | .s a _ => a
  | .l _ a => a
  | .o => .o
def Ann.snd : Ann → Ann
  | .s _ b => b
  | _ => .o
def Ann.sh : Ann → Shape
  | .l sh _ => sh
  | _ => ⟨[], [], 4⟩
def nmQ (X : VSt → Prop) (Q : Exit → VSt → Prop) (e : Exit) (st : VSt) : Prop := match e with
  | .normal => X st
  | e => Q e st
def blQ (id : Nat) (Q : Exit → VSt → Prop) (e : Exit) (st : VSt) : Prop := match e with
  | .exit i => cond (Nat.beq i id) (Q .normal st) (Q (.exit i) st)
  | e => Q e st
def vcondB (X Y : Prop) : TA → Prop
  | .v .bool b => br b X Y
  | _ => False
def vwp (en : VEn) (nt : Nat) : Code → Ann → (Exit → VSt → Prop) → VSt → Prop
  | .skip, _, Q, st => Q .normal st
  | .region _ ops draw, _, Q, st => cond draw (chk (regOk ops.toList (befOf ops)) (vreg en nt ops.toList (befOf ops) st.nx ops.toList 0 [] (Q .normal) ⟨st.t, st.h, st.nx + 8 * ops.size⟩)) (vops en nt ops.toList ops.toList (Q .normal) st)
  | .seq x y, an, Q, st => vwp en nt x an.fst (nmQ (vwp en nt y an.snd Q) Q) st
  | .cond c x y, an, Q, st => vcondB (vwp en nt x an.fst Q st) (vwp en nt y an.snd Q st) (vo st.t c)
  | .block id c, an, Q, st => vwp en nt c an (blQ id Q) st
  | .loop c, an, Q, st => an.sh.dec st fun s0 => LoopP (fun next s => vwp en nt c an.fst (nmQ (fun st => an.sh.dec st next) Q) (an.sh.enc s)) s0
  | .exit id, _, Q, st => Q (.exit id) st
  | .ret, _, Q, st => Q .ret st
  | .label _, _, Q, st => Q .normal st
  | _, _, _, _ => False

/-! ### the ends of a function -/
def initVT : Nat → List VA → VT
  | _, [] => []
  | i, .v T x :: as => (i, .a (.v T x)) :: initVT (i + 1) as
  | i, .io _ :: as => (i, .a (.ptr i 0 0)) :: initVT (i + 1) as
def initVH : Nat → List VA → VH
  | _, [] => []
  | i, .v _ _ :: as => initVH (i + 1) as
  | i, .io cells :: as => (i, .box (cells.map vvTA)) :: initVH (i + 1) as
def ioVA : Nat → List VA → List Nat
  | _, [] => []
  | i, .v _ _ :: as => ioVA (i + 1) as
  | i, .io _ :: as => i :: ioVA (i + 1) as
def vinit (args : List VA) : VSt := ⟨initVT 0 args, initVH 0 args, max 4 args.length⟩

def isCons : Option Ty → Bool
  | some (.cons _ _) => true
  | _ => false
/-- what is in a cell -/
def cellAt (h : VH) : TA → TA
  | .ptr n _ k => (match hget h n with | .box cells => (match cells[k]? with | some a => a | none => .dead) | _ => .dead)
  | _ => .dead
def isPB (h : VH) : TA → Bool
  | .ptr n _ _ => isBox (hget h n)
  | _ => false
/-- what the results own is frozen, unless it is handed over -/
def frzR1 (ty : TypeId → Option Ty) (t : VT) (m : Bool) (h : VH) : ResultVar → Ups
  | .tmp i => frzA m h (tvA (lk t i))
  | .cell a tt => cond (isCons (ty tt)) (frzB h (tvA (lk t a))) []
def okR1 (ty : TypeId → Option Ty) (t : VT) (m : Bool) (h : VH) : ResultVar → Bool
  | .tmp i => solid h (tvA (lk t i)) && solidB (hup h (if m then [] else frz1 h (tvA (lk t i)))) (tvA (lk t i))
  | .cell a tt => isPB h (tvA (lk t a)) && (cond (isCons (ty tt)) (solidB h (tvA (lk t a))) (ty tt).isSome)
def frzRs (ty : TypeId → Option Ty) (t : VT) : VH → List ResultVar → List Bool → Ups
  | _, [], _ => []
  | h, r :: rs, m => frzR1 ty t (m.headD false) h r ++ frzRs ty t (hup h (frzR1 ty t (m.headD false) h r)) rs m.tail
def okRs (ty : TypeId → Option Ty) (t : VT) : VH → List ResultVar → List Bool → Bool
  | _, [], _ => true
  | h, r :: rs, m => okR1 ty t (m.headD false) h r && okRs ty t (hup h (frzR1 ty t (m.headD false) h r)) rs m.tail
def frzI (h : VH) (n : Nat) : Ups := match hget h n with | .box cells => frzL h cells | _ => []
def frzIs : VH → List Nat → Ups
  | _, [] => []
  | h, n :: ns => frzI h n ++ frzIs (hup h (frzI h n)) ns
def okI (h : VH) (n : Nat) : Bool := match hget h n with | .box cells => solidL h cells | _ => false
def okIs : VH → List Nat → Bool
  | _, [] => true
  | h, n :: ns => Nat.blt n 4 && okI h n && okIs (hup h (frzI h n)) ns
def resV (h : VH) (own : Bool) : TA → Option VR
  | .v T x => some (.v T x)
  | .nilS r => cond own (some (.own r [])) (some (.v (.sl r) ([] : List r.den)))
  | .own n sg => (match hget h n with
    | .arr T rows false => cond own (some (.own T (segOf rows sg))) none
    | .arr T rows true => cond own none (some (.v (.sl T) (segOf rows sg)))
    | _ => none)
  | .ptr n _ fld => (match hget h n with
    | .box cells => cond (Nat.beq fld 0) (match cellsVV h cells with | some cs => some (.bx cs) | none => none) none
    | _ => none)
  | _ => none
def packC (h : VH) (T : Ty) (K : T.den → Prop) : TA → Prop
  | .ptr n _ k => (match hget h n with | .box cells => packT h T (cells.drop k) K | _ => False)
  | _ => False
def optK (K : VR → Prop) : Option VR → Prop
  | some x => K x
  | none => False
def resCK (h : VH) (own : Bool) (a : TA) (K : VR → Prop) : Option Ty → Prop
  | some (.cons f r) => packC h (.cons f r) (fun x => K (.v (.cons f r) x)) a
  | some _ => optK K (resV h own (cellAt h a))
  | none => False
def resK (ty : TypeId → Option Ty) (h : VH) (t : VT) (own : Bool) (K : VR → Prop) : ResultVar → Prop
  | .tmp i => optK K (resV h own (tvA (lk t i)))
  | .cell a tt => resCK h own (tvA (lk t a)) K (ty tt)
def ressK (ty : TypeId → Option Ty) (h : VH) (t : VT) : List ResultVar → List Bool → (List VR → Prop) → Prop
  | [], _, K => K []
  | r :: rs, m, K => resK ty h t (m.headD false) (fun x => ressK ty h t rs m.tail fun xs => K (x :: xs)) r
def resN (h : VH) : TA → List Nat
  | .own n _ => (match hget h n with | .arr _ _ false => [n] | _ => [])
  | .ptr n _ _ => [n]
  | _ => []
def resN1 (ty : TypeId → Option Ty) (h : VH) (t : VT) : ResultVar → List Nat
  | .tmp i => resN h (tvA (lk t i))
  | .cell a tt => cond (isCons (ty tt)) [] (resN h (cellAt h (tvA (lk t a))))
def ressN (ty : TypeId → Option Ty) (h : VH) (t : VT) : List ResultVar → List Nat
  | [] => []
  | r :: rs => resN1 ty h t r ++ ressN ty h t rs
def iosV (h : VH) : List Nat → Option (List (List VV))
  | [] => some []
  | n :: ns => (match hget h n with
    | .box cells => (match cellsVV h cells, iosV h ns with | some c, some cs => some (c :: cs) | _, _ => none)
    | _ => none)
def VR.flat : VR → Bool
  | .v T _ => T.flat
  | .own T _ => T.flat
  | .bx cells => cells.all fun c => c.1.flat
def nodupN : List Nat → Bool
  | [] => true
  | n :: l => !memN n l && nodupN l
def ioLen : List VA → List Nat
  | [] => []
  | .v _ _ :: as => ioLen as
  | .io c :: as => c.length :: ioLen as
def allFlat (rs : List VR) (ios : List (List VV)) : Bool := rs.all VR.flat && ios.all fun c => c.all fun x => x.1.flat
def vfinP (fresh : Bool) (ns ls os : List Nat) (post : List VR → List (List VV) → Prop) (rs : List VR) : Option (List (List VV)) → Prop
  | some ios => chk (nodupN (os ++ ns) && decide (ios.map List.length = ls) && (!fresh || allFlat rs ios)) (post rs ios)
  | none => False
def vfinR (ty : TypeId → Option Ty) (fresh : Bool) (rvs : List ResultVar) (m : List Bool) (ns ls : List Nat) (post : List VR → List (List VV) → Prop) (t : VT) (h1 : VH) : Prop :=
  chk (okIs h1 ns) (ressK ty (hup h1 (frzIs h1 ns)) t rvs m fun rs => vfinP fresh ns ls (ressN ty (hup h1 (frzIs h1 ns)) t rvs) post rs (iosV (hup h1 (frzIs h1 ns)) ns))
def vfinE (ty : TypeId → Option Ty) (fresh : Bool) (rvs : List ResultVar) (m : List Bool) (ns ls : List Nat) (post : List VR → List (List VV) → Prop) (st : VSt) : Prop :=
  chk (okRs ty st.t st.h rvs m) (vfinR ty fresh rvs m ns ls post st.t (hup st.h (frzRs ty st.t st.h rvs m)))
def vfin (ty : TypeId → Option Ty) (fresh : Bool) (rvs : List ResultVar) (m : List Bool) (ns ls : List Nat) (post : List VR → List (List VV) → Prop) : Exit → VSt → Prop
  | .normal, st => vfinE ty fresh rvs m ns ls post st
  | .ret, st => vfinE ty fresh rvs m ns ls post st
  | _, _ => False
end Go.RX

/- RX, part 15: the transformer of an operation. -/
import Derived.Test.YtpcmbchibhcdiaaDoorRxEq
namespace Go.RX
open Go

structure En where
  P : Program
  ti : TI
  fr : FuncId → Bool
  W0 : World

def argE (fresh : Bool) (st : St) : EV → Option AV
  | .d x => some (.d x)
  | .nil sz => some (.d (.sl sz []))
  | .agg ds => some (.agg ds)
  | .own n off len => if fresh then (match st.o n with | some (.arr sz rows) => some (.d (.sl sz ((rows.drop off).take len))) | _ => none) else none
  | .ptr n row fld => if row = 0 ∧ fld = 0 then (match st.o n with | some (.box cells) => (match cellsD cells with | some ds => some (.io ds) | none => none) | _ => none) else none
  | _ => none
def argsE (fresh : Bool) (st : St) : List EV → Option (List AV)
  | [] => some []
  | e :: es => match argE fresh st e, argsE fresh st es with | some a, some as => some (a :: as) | _, _ => none
def ioNames : List EV → List Nat
  | [] => []
  | .ptr n _ _ :: es => n :: ioNames es
  | _ :: es => ioNames es

def frzCells (st : St) : List EV → St
  | [] => st
  | e :: es => frzCells (frzOf st e) es
def frzBox (st : St) (e : EV) : St := match e with | .ptr n _ _ => (match st.o n with | some (.box cells) => frzCells st cells | _ => st) | _ => st
def frzArgs (fresh : Bool) (st : St) : List EV → St
  | [] => st
  | e :: es => frzArgs fresh (frzBox (if fresh then st else frzOf st e) e) es

def afterIos (st : St) : List Nat → List (List D) → Option St
  | [], [] => some st
  | n :: ns, c :: cs => afterIos { st with o := upd st.o n (some (.box (c.map .d))) } ns cs
  | _, _ => none
def retE (st : St) : List RV → St × List EV
  | [] => (st, [])
  | .d x :: rs => ((retE st rs).1, .d x :: (retE st rs).2)
  | .agg ds :: rs => ((retE st rs).1, .agg ds :: (retE st rs).2)
  | .own sz rows :: rs => ((retE (st.add (.arr sz rows)) rs).1, .own st.nx 0 rows.length :: (retE (st.add (.arr sz rows)) rs).2)
  | .bx ds :: rs => ((retE (st.add (.box (ds.map .d))) rs).1, .ptr st.nx 0 0 :: (retE (st.add (.box (ds.map .d))) rs).2)
def packE : List EV → EV
  | [e] => e
  | es => .tup es

def evTs (ti : TI) (st : St) (ts : List TypeId) (xs : List Operand) : List EV := (ts.zip xs).map fun p => evT ti p.1 st p.2

def EWcall (en : En) (f : FuncId) (ts : List TypeId) (xs : List Operand) (dst : Option Tmp) (st : St) (K : St → Prop) : Prop :=
  ts.length = xs.length ∧
  let st1 := frzArgs (en.fr f) st (evTs en.ti st ts xs)
  ∃ avs, argsE (en.fr f) st1 (evTs en.ti st1 ts xs) = some avs ∧ (ioNames (evTs en.ti st1 ts xs)).Nodup ∧
    ∃ post, Con en.P en.W0 f (en.fr f) avs post ∧ ∀ rs ios, post rs ios →
      ∃ st2, afterIos st1 (ioNames (evTs en.ti st1 ts xs)) ios = some st2 ∧ K ((retE st2 rs).1.put dst (packE (retE st2 rs).2))

def punop (op : UnOp) (e : EV) (K : EV → Prop) : Prop :=
  match op, e with
  | .not, .d (.im (.bool b)) => K (.d (.im (.bool (!b))))
  | .neg, .d (.im (.int k n)) => K (.d (.im (.int k (k.wrap (0 - n)))))
  | _, _ => False

def pfieldAddr (ti : TI) (s : TypeId) (st : St) (e : EV) (f : Nat) (K : EV → Prop) : Prop :=
  match ti s with
  | some (.st fs) => f < fs.length ∧
    match e with
    | .ptr n r fl => (st.o n).isSome = true ∧ K (.ptr n r (fl + f))
    | .rptr cells => K (.rptr (cells.drop f))
    | _ => False
  | _ => False

def pfield (ti : TI) (s : TypeId) (e : EV) (f : Nat) (K : EV → Prop) : Prop :=
  match ti s, e with
  | some (.st fs), .agg cells => f < fs.length ∧ ∃ x, cells[f]? = some x ∧ K (.d x)
  | _, _ => False

def pconvert (ti : TI) (src dst : TypeId) (e : EV) (K : EV → Prop) : Prop :=
  match ti src, ti dst, e with
  | some (.int _), some (.int k), .d (.im (.int _ n)) => K (.d (.im (.int k (k.wrap n))))
  | some .str, some .str, .d (.im (.string s)) => K (.d (.im (.string s)))
  | _, _, _ => False

def byteRow (b : UInt8) : List D := [.im (.int .u8 (b.toNat : Int))]
def pconvS (ti : TI) (st : St) (src dst : TypeId) (e : EV) (K : EV → Prop) : Prop :=
  match e with
  | .own n off len => (∃ el, ti src = some (.sl el) ∧ ti el = some (.int .u8)) ∧ ti dst = some .str ∧ ∃ rows, st.o n = some (.arr 1 rows) ∧ ∃ l : List UInt8, l ≠ [] ∧ (rows.drop off).take len = l.map byteRow ∧ K (.d (.im (.string ⟨l.toArray⟩)))
  | e => pconvert ti src dst e K

def pmax (a b : EV) (K : EV → Prop) : Prop :=
  match a, b with
  | .d (.im (.int k x)), .d (.im (.int k' y)) => k = k' ∧ K (.d (.im (.int k (if y > x then y else x))))
  | _, _ => False

def pbuiltin (en : En) (b : Builtin) (ts : List TypeId) (xs : List Operand) (dst : Option Tmp) (st : St) (K : St → Prop) : Prop :=
  match b, ts, xs with
  | .len, [t], [x] => plen st.o en.ti t (evT en.ti t st x) fun e => K (st.put dst e)
  | .append, [t, tx], [s, x] => (∃ e, en.ti t = some (.sl e)) ∧ (∃ e, en.ti tx = some (.sl e)) ∧ pappend en.ti t st (evT en.ti t st s) (evT en.ti tx st x) fun st e => K (st.put dst e)
  | .copy, [t, tx], [s, x] => (∃ e, en.ti t = some (.sl e)) ∧ (∃ e, en.ti tx = some (.sl e)) ∧ pcopy en.ti t st (evT en.ti t st s) (evT en.ti tx st x) fun st e => K (st.put dst e)
  | .max, _, [x, y] => pmax (ev st x) (ev st y) fun e => K (st.put dst e)
  | _, _, _ => False

def frzParts (st : St) : List (Nat × Operand) → St
  | [] => st
  | p :: ps => frzParts (frzOf st (ev st p.2)) ps

def slOk (ti : TI) (t : TypeId) (e : EV) : Prop :=
  match ti t, e with
  | some .str, .d (.im (.string _)) => True
  | some (.sl _), .d (.sl _ _) => True
  | some (.sl _), .own _ _ _ => True
  | _, _ => False

/-- a store: what is owned and goes into a row of data is frozen first -/
def frzStore (st : St) (ad v : EV) : St := match ad with | .ptr n _ _ => (match st.o n with | some (.arr _ _) => frzOf st v | _ => st) | _ => st
/-- a load of a struct: what its cells own is frozen first -/
def frzLoad (ti : TI) (t : TypeId) (st : St) (ad : EV) : St := match isSt ti t with | some true => frzBox st ad | _ => st

def EWop (en : En) (o : Oper) (st : St) (K : St → Prop) : Prop :=
  match o.op with
  | .move x | .assign x => K (st.put o.dst (evT en.ti o.type st x))
  | .pick c x y => match ev st c with
    | .d (.im (.bool b)) => (b = true → K (st.put o.dst (evT en.ti o.type st x))) ∧ (b = false → K (st.put o.dst (evT en.ti o.type st y)))
    | _ => False
  | .alloc e => ∃ es, zeroBox en.ti e = some es ∧ K ((st.add (.box es)).put o.dst (.ptr st.nx 0 0))
  | .box e x => ∃ es, boxCells st (evT en.ti e st x) = some es ∧ K ((st.add (.box es)).put o.dst (.ptr st.nx 0 0))
  | .build t ps => pbuild en.ti t (partsE (frzParts st ps.toList) ps) fun e => K ((frzParts st ps.toList).put o.dst e)
  | .buildSlice t len ps => pbuildSlice en.ti t len (frzParts st ps.toList) (partsE (frzParts st ps.toList) ps) fun st e => K (st.put o.dst e)
  | .load t x => pload en.ti (frzLoad en.ti t st (ev st x)) t (ev (frzLoad en.ti t st (ev st x)) x) fun e => K ((frzLoad en.ti t st (ev st x)).put o.dst e)
  | .store t x v => o.dst = none ∧ pstore en.ti t (frzStore st (ev st x) (evT en.ti t st v)) (ev (frzStore st (ev st x) (evT en.ti t st v)) x) (evT en.ti t (frzStore st (ev st x) (evT en.ti t st v)) v) K
  | .nilCheck x => match ev st x with | .ptr n r f => (st.o n).isSome = true ∧ K (st.put o.dst (.ptr n r f)) | _ => False
  | .binOp op t x y _ => pbinA en.P en.ti op t (ev st x) (ev st y) fun e => K (st.put o.dst e)
  | .unOp op _ x => punop op (ev st x) fun e => K (st.put o.dst e)
  | .convert src dst x => pconvS en.ti st src dst (ev st x) fun e => K (st.put o.dst e)
  | .makeSlice t l c => pmake en.ti t st (ev st l) (ev st c) fun st e => K (st.put o.dst e)
  | .slice t x lo hi none => slOk en.ti t (ev st x) ∧ pslice en.ti t st (ev st x) lo hi fun e => K (st.put o.dst e)
  | .fieldAddr s x f => pfieldAddr en.ti s st (ev st x) f fun e => K (st.put o.dst e)
  | .field s x f => pfield en.ti s (ev st x) f fun e => K (st.put o.dst e)
  | .indexAddr t x i => (∃ e, en.ti t = some (.sl e)) ∧ pindexAddr st (ev st x) (ev st i) en.ti t fun e => K (st.put o.dst e)
  | .index t x i => en.ti t = some .str ∧ pindex (ev st x) (ev st i) fun e => K (st.put o.dst e)
  | .extract x i => match ev st x with | .tup es => ∃ e, es[i]? = some e ∧ K (st.put o.dst e) | _ => False
  | .call { callee := .builtin b, args, argTypes } => pbuiltin en b argTypes.toList args.toList o.dst st K
  | .call { callee := .value f, args, argTypes } => match ev st f with
    | .d (.im (.func (.func f) fs cs)) => fs = #[] ∧ cs = #[] ∧ EWcall en f argTypes.toList args.toList o.dst st K
    | _ => False
  | _ => False
end Go.RX

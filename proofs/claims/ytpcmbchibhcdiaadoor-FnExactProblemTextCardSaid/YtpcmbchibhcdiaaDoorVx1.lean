/- VX, part 1: typed values, typed states, and how they stand for the states of RX. Program-independent. -/
import Derived.Test.YtpcmbchibhcdiaaDoorRx21
namespace Go.RX
open Go

inductive Ty where
  | int (k : IntKind) | bool | str | byte | sl (r : Ty) | cons (f r : Ty)
  deriving DecidableEq

@[reducible] def Ty.den : Ty → Type
  | .int _ => Int
  | .bool => Bool
  | .str => ByteArray
  | .byte => UInt8
  | .sl r => List r.den
  | .cons f r => f.den × r.den
def Ty.w : Ty → Nat
  | .cons _ r => r.w + 1
  | _ => 1
def Ty.atom : Ty → Bool
  | .cons _ _ => false
  | _ => true
/-- fields are atoms -/
def Ty.ok : Ty → Bool
  | .cons f r => f.atom && f.ok && r.ok
  | .sl r => r.ok
  | _ => true
def Ty.dfl : (T : Ty) → T.den
  | .int _ => (0 : Int)
  | .bool => false
  | .str => (⟨#[]⟩ : ByteArray)
  | .byte => (0 : UInt8)
  | .sl r => ([] : List r.den)
  | .cons f r => (f.dfl, r.dfl)
/-- the cells of a row -/
def Ty.cells : (T : Ty) → T.den → List D
  | .int k, n => [.im (.int k n)]
  | .bool, b => [.im (.bool b)]
  | .str, s => [.im (.string s)]
  | .byte, b => [.im (.int .u8 (UInt8.toNat b : Int))]
  | .sl r, xs => [.sl r.w (List.map (fun x => r.cells x) xs)]
  | .cons f r, x => f.cells x.1 ++ r.cells x.2

theorem Ty.atom_w {T : Ty} (h : T.atom = true) : T.w = 1 := by cases T <;> simp_all [Ty.atom, Ty.w]
theorem Ty.cells_len : ∀ {T : Ty} (_ : T.ok = true) (x : T.den), (T.cells x).length = T.w
  | .int _, _, _ => rfl
  | .bool, _, _ => rfl
  | .str, _, _ => rfl
  | .byte, _, _ => rfl
  | .sl _, _, _ => rfl
  | .cons f r, h, x => by
    simp only [Ty.ok, Bool.and_eq_true] at h
    simp only [Ty.cells, List.length_append, Ty.w, Ty.cells_len h.1.2 x.1, Ty.cells_len h.2 x.2, Ty.atom_w h.1.1]
    omega

/-! ### what is done with values -/
/-- ≤, as the kernel can leave it -/
def nle : Int → Int → Bool
  | .ofNat m, .ofNat n => Nat.ble m n
  | .negSucc m, .negSucc n => Nat.ble n m
  | .negSucc _, .ofNat _ => true
  | .ofNat _, .negSucc _ => false
theorem nle_eq (a b : Int) : nle a b = decide (a ≤ b) := by
  cases a <;> cases b <;> simp only [nle]
  · rename_i m n
    rw [Bool.eq_iff_iff, decide_eq_true_iff, Nat.ble_eq]; exact Int.ofNat_le.symm
  · rename_i m n; symm; apply decide_eq_false; show ¬ ((m : Int) ≤ Int.negSucc n); omega
  · rename_i m n; symm; apply decide_eq_true; show Int.negSucc m ≤ (n : Int); omega
  · rename_i m n
    rw [Bool.eq_iff_iff, decide_eq_true_iff, Nat.ble_eq]; omega
--VOPS
def rd (T : Ty) (xs : List T.den) (i : Int) : T.den := xs.getD i.toNat T.dfl
def wr {α : Type} (xs : List α) (i : Int) (x : α) : List α := xs.set i.toNat x
def llen {α : Type} (xs : List α) : Int := xs.length
def seg {α : Type} (xs : List α) (lo ln : Int) : List α := (xs.drop lo.toNat).take ln.toNat
def lapp {α : Type} (xs ys : List α) : List α := xs ++ ys
def splice {α : Type} (xs ys : List α) (lo ln : Int) : List α := xs.take lo.toNat ++ ys ++ xs.drop (lo.toNat + ln.toNat)
def rep {α : Type} (n : Int) (x : α) : List α := List.replicate n.toNat x
def nonE {α : Type} (xs : List α) : Bool := !xs.isEmpty
def slen (s : ByteArray) : Int := s.size
def bt (s : ByteArray) (i : Int) : Int := ((s.data.getD i.toNat 0).toNat : Int)
def ssub (s : ByteArray) (lo hi : Int) : ByteArray := s.extract lo.toNat hi.toNat
def scat (s u : ByteArray) : ByteArray := s ++ u
def seq (s u : ByteArray) : Bool := s.toList == u.toList
def sne (s u : ByteArray) : Bool := !(s.toList == u.toList)
def sless (s u : ByteArray) : Bool := Op.bytesLess s.toList u.toList
def idx (i n : Int) : Bool := nle 0 i && !nle n i
def inn (lo hi n : Int) : Bool := nle 0 lo && (nle lo hi && nle hi n)
def ile (a b : Int) : Bool := nle a b
def ilt (a b : Int) : Bool := !nle b a
def ieq (a b : Int) : Bool := decide (a = b)
def ine (a b : Int) : Bool := !decide (a = b)
def bnot (a : Bool) : Bool := !a
def beqB (a b : Bool) : Bool := a == b
def bneB (a b : Bool) : Bool := !(a == b)
def zadd (a b : Int) : Int := a + b
def zsub (a b : Int) : Int := a - b
def iadd (k : IntKind) (a b : Int) : Int := k.wrap (a + b)
def isub (k : IntKind) (a b : Int) : Int := k.wrap (a - b)
def imul (k : IntKind) (a b : Int) : Int := k.wrap (a * b)
def iquo (k : IntKind) (a b : Int) : Int := k.wrap (a.tdiv b)
def irem (a b : Int) : Int := a.tmod b
def ixor (k : IntKind) (x y : Int) : Int := k.wrap ((x % (2 ^ k.bits : Int)).toNat ^^^ (y % (2 ^ k.bits : Int)).toNat : Nat)
def imax (a b : Int) : Int := if b > a then b else a
def iconv (k : IntKind) (a : Int) : Int := k.wrap a
def toB (a : Int) : UInt8 := UInt8.ofNat a.toNat
def ofB (b : UInt8) : Int := (b.toNat : Int)
def strOf (l : List UInt8) : ByteArray := ⟨l.toArray⟩
/-- at most so long may a slice grow -/
def fitsL (n : Int) : Bool := nle n 68719476736
def mkOk (n : Int) : Bool := nle 0 n && nle n 68719476736
def fitsS (n : Int) : Bool := nle n 9223372036854775807
def veq : (T : Ty) → T.den → T.den → Bool
  | .int _, a, b => (show Int from a) == (show Int from b)
  | .bool, a, b => (show Bool from a) == (show Bool from b)
  | .str, a, b => seq a b
  | .byte, a, b => ofB a == ofB b
  | .sl _, _, _ => false
  | .cons f r, a, b => veq f a.1 b.1 && veq r a.2 b.2
def vne (T : Ty) (a b : T.den) : Bool := !veq T a b
/-- a condition that is owed -/
def grd (b : Bool) (p : Prop) : Prop := @Bool.rec (fun _ => Prop) False p b
/-- a way that parts -/
def br (b : Bool) (p q : Prop) : Prop := @Bool.rec (fun _ => Prop) q p b
--END

theorem idx_eq (i n : Int) : idx i n = (decide (0 ≤ i) && decide (i < n)) := by
  simp only [idx, nle_eq]; by_cases h : i < n <;> simp [h] <;> omega
theorem inn_eq (lo hi n : Int) : inn lo hi n = (decide (0 ≤ lo) && (decide (lo ≤ hi) && decide (hi ≤ n))) := by simp only [inn, nle_eq]
theorem ile_eq (a b : Int) : ile a b = decide (a ≤ b) := nle_eq a b
theorem ilt_eq (a b : Int) : ilt a b = decide (a < b) := by
  simp only [ilt, nle_eq]; by_cases h : a < b <;> simp [h] <;> omega
theorem fitsL_eq (n : Int) : fitsL n = decide (n ≤ 68719476736) := nle_eq n _
theorem fitsS_eq (n : Int) : fitsS n = decide (n ≤ 9223372036854775807) := nle_eq n _
theorem mkOk_eq (n : Int) : mkOk n = (decide (0 ≤ n) && decide (n ≤ 68719476736)) := by simp only [mkOk, nle_eq]
theorem grd_iff {b : Bool} {p : Prop} : grd b p ↔ b = true ∧ p := by cases b <;> simp [grd]
theorem br_iff {b : Bool} {p q : Prop} : br b p q ↔ (b = true → p) ∧ (b = false → q) := by cases b <;> simp [br]

inductive TA where
  | dead
  | v (T : Ty) (x : T.den)
  | nilS (r : Ty)
  | own (n : Nat) (sg : Option (Int × Int))
  | ptr (n : Nat) (row : Int) (fld : Nat)
  | rptr (T : Ty) (x : T.den) (fld : Nat)
  | fn (f : FuncId)
inductive TV where
  | a (x : TA)
  | tup (xs : List TA)

inductive Slot where
  | free
  | gone
  | arr (T : Ty) (rows : List T.den) (frz : Bool)
  | box (cells : List TA)

def lk {α : Type} : List (Nat × α) → Nat → Option α
  | [], _ => none
  | p :: l, n => cond (Nat.beq p.1 n) (some p.2) (lk l n)
abbrev VH := List (Nat × Slot)
abbrev VT := List (Nat × TV)
structure VSt where
  t : VT
  h : VH
  nx : Nat

def slotOf : Option Slot → Slot
  | some s => s
  | none => .free
def hget (h : VH) (n : Nat) : Slot := slotOf (lk h n)

def segOf {α : Type} (rows : List α) : Option (Int × Int) → List α
  | none => rows
  | some (lo, ln) => seg rows lo ln
def segOff : Option (Int × Int) → Nat
  | none => 0
  | some (lo, _) => lo.toNat
def segLen {α : Type} (rows : List α) : Option (Int × Int) → Nat
  | none => rows.length
  | some (_, ln) => ln.toNat
def segIn {α : Type} (rows : List α) : Option (Int × Int) → Prop
  | none => True
  | some (lo, ln) => 0 ≤ lo ∧ 0 ≤ ln ∧ lo + ln ≤ rows.length

theorem segOf_eq {α : Type} (rows : List α) (sg : Option (Int × Int)) : segOf rows sg = (rows.drop (segOff sg)).take (segLen rows sg) := by
  cases sg with
  | none => simp [segOf, segOff, segLen]
  | some p => rfl
theorem segOf_len {α : Type} {rows : List α} {sg : Option (Int × Int)} (h : segIn rows sg) : (segOf rows sg).length = segLen rows sg := by
  cases sg with
  | none => rfl
  | some p =>
    obtain ⟨lo, ln⟩ := p
    simp only [segIn] at h
    simp only [segOf, seg, segLen, List.length_take, List.length_drop]
    omega

/-- a value as RX tells it -/
def vE : (T : Ty) → T.den → EV
  | .int k, n => .d (.im (.int k n))
  | .bool, b => .d (.im (.bool b))
  | .str, s => .d (.im (.string s))
  | .byte, b => .d (.im (.int .u8 (UInt8.toNat b : Int)))
  | .sl r, xs => .d (.sl r.w (List.map (fun x => r.cells x) xs))
  | .cons f r, x => .agg (Ty.cells (.cons f r) x)

/-- a value of a row or a field, as a value of its own -/
def mkV : (T : Ty) → T.den → TA
  | .byte, b => .v (.int .u8) (ofB b)
  | .int k, n => .v (.int k) n
  | .bool, b => .v .bool b
  | .str, s => .v .str s
  | .sl r, xs => .v (.sl r) xs
  | .cons f r, x => .v (.cons f r) x

def All2 {α β : Type} (R : α → β → Prop) : List α → List β → Prop
  | [], [] => True
  | a :: as, b :: bs => R a b ∧ All2 R as bs
  | _, _ => False

def relA (h : VH) (f : Nat → Nat) : TA → EV → Prop
  | .dead, _ => True
  | .v T x, e => T.ok = true ∧ e = vE T x
  | .nilS r, e => r.ok = true ∧ e = .nil r.w
  | .own n sg, e => match hget h n with
    | .free => False
    | .gone => True
    | .arr T rows frz => segIn rows sg ∧ (frz = true → e = .d (.sl T.w ((segOf rows sg).map T.cells))) ∧ (frz = false → e = .own (f n) (segOff sg) (segLen rows sg))
    | .box _ => False
  | .ptr n row fld, e => match hget h n with
    | .free => False
    | .gone => True
    | .arr _ rows frz => 0 ≤ row ∧ row < rows.length ∧ (frz = false → e = .ptr (f n) row.toNat fld)
    | .box _ => row = 0 ∧ e = .ptr (f n) 0 fld
  | .rptr T x fld, e => T.ok = true ∧ e = .rptr ((T.cells x).drop fld)
  | .fn g, e => e = .d (.im (.func (.func g) #[] #[]))
def frozen (h : VH) : TA → Bool
  | .own n _ => match hget h n with | .arr _ _ true => true | _ => false
  | _ => false
/-- a part of a tuple -/
def relT (h : VH) (f : Nat → Nat) (a : TA) (e : EV) : Prop := frozen h a = false → relA h f a e
def relV (h : VH) (f : Nat → Nat) : TV → EV → Prop
  | .a x, e => relA h f x e
  | .tup xs, e => ∃ es, e = .tup es ∧ All2 (relT h f) xs es

def live : Slot → Bool
  | .arr _ _ false => true
  | .box _ => true
  | _ => false

def relS (h : VH) (f : Nat → Nat) (st : St) (n : Nat) : Slot → Prop
  | .free => True
  | .gone => True
  | .arr T rows frz => T.ok = true ∧ (frz = false → f n < st.nx ∧ st.o (f n) = some (.arr T.w (rows.map T.cells)))
  | .box cells => f n < st.nx ∧ ∃ es, st.o (f n) = some (.box es) ∧ All2 (relA h f) cells es

structure Rel (nt : Nat) (f : Nat → Nat) (vs : VSt) (st : St) : Prop where
  t : ∀ i v, lk vs.t i = some v → ∃ e, st.t[i]? = some e ∧ relV vs.h f v e
  nt : st.t.length = nt
  h : ∀ n, relS vs.h f st n (hget vs.h n)
  inj : ∀ n m, live (hget vs.h n) = true → live (hget vs.h m) = true → f n = f m → n = m
  io : ∀ n, n < 4 → f n = n
  nx : 4 ≤ st.nx

theorem All2.length {α β : Type} {R : α → β → Prop} : ∀ {as : List α} {bs : List β}, All2 R as bs → as.length = bs.length
  | [], [], _ => rfl
  | _ :: _, _ :: _, h => by simp [All2.length h.2]
  | [], _ :: _, h => h.elim
  | _ :: _, [], h => h.elim
theorem All2.mono {α β : Type} {R S : α → β → Prop} (hr : ∀ a b, R a b → S a b) : ∀ {as : List α} {bs : List β}, All2 R as bs → All2 S as bs
  | [], [], _ => trivial
  | _ :: _, _ :: _, h => ⟨hr _ _ h.1, All2.mono hr h.2⟩
  | [], _ :: _, h => h.elim
  | _ :: _, [], h => h.elim
theorem All2.get {α β : Type} {R : α → β → Prop} : ∀ {as : List α} {bs : List β} {i : Nat} {a : α}, All2 R as bs → as[i]? = some a → ∃ b, bs[i]? = some b ∧ R a b
  | [], [], _, _, _, h => by simp at h
  | a :: as, b :: bs, 0, _, h, he => by simp at he; subst he; exact ⟨b, by simp, h.1⟩
  | a :: as, b :: bs, i + 1, _, h, he => by simpa using All2.get h.2 (by simpa using he)
  | [], _ :: _, _, _, h, _ => h.elim
  | _ :: _, [], _, _, h, _ => h.elim
theorem All2.set {α β : Type} {R : α → β → Prop} {a : α} {b : β} (hab : R a b) : ∀ {as : List α} {bs : List β} (i : Nat), All2 R as bs → All2 R (as.set i a) (bs.set i b)
  | [], [], _, h => trivial
  | _ :: _, _ :: _, 0, h => ⟨hab, h.2⟩
  | _ :: _, _ :: _, i + 1, h => ⟨h.1, All2.set hab i h.2⟩
  | [], _ :: _, _, h => h.elim
  | _ :: _, [], _, h => h.elim
theorem All2.take {α β : Type} {R : α → β → Prop} : ∀ {as : List α} {bs : List β} (i : Nat), All2 R as bs → All2 R (as.take i) (bs.take i)
  | _, _, 0, _ => by simp [All2]
  | [], [], _ + 1, _ => by simp [All2]
  | _ :: _, _ :: _, i + 1, h => ⟨h.1, All2.take i h.2⟩
  | [], _ :: _, _, h => h.elim
  | _ :: _, [], _, h => h.elim
theorem All2.drop {α β : Type} {R : α → β → Prop} : ∀ {as : List α} {bs : List β} (i : Nat), All2 R as bs → All2 R (as.drop i) (bs.drop i)
  | _, _, 0, h => h
  | [], [], _ + 1, _ => by simp [All2]
  | _ :: _, _ :: _, i + 1, h => All2.drop i h.2
  | [], _ :: _, _, h => h.elim
  | _ :: _, [], _, h => h.elim
theorem All2.append {α β : Type} {R : α → β → Prop} : ∀ {as cs : List α} {bs ds : List β}, All2 R as bs → All2 R cs ds → All2 R (as ++ cs) (bs ++ ds)
  | [], _, [], _, _, h => h
  | _ :: _, _, _ :: _, _, h, h' => ⟨h.1, All2.append h.2 h'⟩
  | [], _, _ :: _, _, h, _ => h.elim
  | _ :: _, _, [], _, h, _ => h.elim
end Go.RX

/- RX, part 1: an abstract state for the IR, and how it relates to the machine's. Program-independent. -/
import Derived.Calls
import Derived.Laws.CopyRow
import Derived.Laws.Cells
import Derived.Laws.Sem
import Derived.Tactics
namespace Go.RX
open Go

inductive D where
  | im (v : Value)
  | sl (sz : Nat) (rows : List (List D))

inductive EV where
  | dead
  | d (x : D)
  | nil (sz : Nat)
  | agg (cells : List D)
  | own (n off len : Nat)
  | ptr (n row fld : Nat)
  | rptr (cells : List D)
  | tup (xs : List EV)

inductive Obj where
  | arr (sz : Nat) (rows : List (List D))
  | box (cells : List EV)

def Obj.sz : Obj → Nat
  | .arr sz _ => sz
  | .box _ => 0

abbrev Heap := Nat → Option Obj
def upd {α : Type} (o : Nat → Option α) (n : Nat) (x : Option α) : Nat → Option α := fun m => if m = n then x else o m
theorem upd_same {α : Type} (o : Nat → Option α) (n : Nat) (x : Option α) : upd o n x n = x := by simp [upd]
theorem upd_ne {α : Type} (o : Nat → Option α) {n m : Nat} (x : Option α) (h : m ≠ n) : upd o n x m = o m := by simp [upd, h]

structure St where
  t : List EV
  o : Heap
  nx : Nat

inductive TK where
  | int (k : IntKind) | bool | str | sl (e : TypeId) | st (fs : List TypeId) | oth
abbrev TI := TypeId → Option TK

def szT (ti : TI) (t : TypeId) : Nat := match ti t with | some (.st fs) => fs.length | _ => 1
def elemSz (ti : TI) (t : TypeId) : Nat := match ti t with | some (.sl e) => szT ti e | _ => 0

abbrev Beta := Nat → Option (Nat × Nat)

inductive Rd (w : World) (S : Nat → Prop) : Value → D → Prop
  | im (v : Value) (h : v.oneCell' = true) : Rd w S v (.im v)
  | nil (a : Option Addr) (c sz : Nat) : Rd w S (.slice a 0 c) (.sl sz [])
  | sl (b off c sz : Nat) (rows : List (List D)) (f : Nat → Nat → Value) (hS : S b) (hc : rows.length ≤ c) (hz : ∀ r ∈ rows, r.length = sz)
      (hv : ∀ (i j : Nat) r d, rows[i]? = some r → r[j]? = some d → w.cell? ⟨b, off + i * sz + j, none⟩ = some (f i j))
      (hr : ∀ (i j : Nat) r d, rows[i]? = some r → r[j]? = some d → Rd w S (f i j) d) :
      Rd w S (.slice (some ⟨b, off, none⟩) rows.length c) (.sl sz rows)

structure Cx where
  w : World
  S : Nat → Prop
  β : Beta
  o : Heap
  m : Nat

def Blk (w : World) (b k : Nat) : Prop := ∃ cs T, w.heap[b]? = some (.cells cs T (0, 0)) ∧ cs.size = k

/-- cells that read as data -/
def RdAt (w : World) (S : Nat → Prop) (b off : Nat) (cells : List D) : Prop :=
  ∀ (j : Nat) x, cells[j]? = some x → ∃ u, w.cell? ⟨b, off + j, none⟩ = some u ∧ Rd w S u x

def RdL (w : World) (S : Nat → Prop) : List D → List Value → Prop
  | [], [] => True
  | x :: xs, v :: vs => Rd w S v x ∧ RdL w S xs vs
  | _, _ => False

mutual
def EVR (c : Cx) : EV → Value → Prop
  | .dead, _ => True
  | .d x, v => Rd c.w c.S v x
  | .nil _, v => ∃ a, v = .slice a 0 0
  | .agg cells, v => ∃ vs : List Value, v = .agg vs.toArray ∧ RdL c.w c.S cells vs
  | .own n off len, v => n < c.m ∧ ∀ ob, c.o n = some ob → ∃ sz rows, ob = .arr sz rows ∧ off + len ≤ rows.length ∧
      match c.β n with
      | none => ∃ a, v = .slice a 0 0 ∧ off = 0 ∧ len = 0
      | some (b, base) => (∃ cap k, v = .slice (some ⟨b, base + off * sz, none⟩) len cap ∧ len ≤ cap ∧ Blk c.w b k ∧ base + (off + cap) * sz ≤ k) ∨ (len = 0 ∧ ∃ a, v = .slice a 0 0)
  | .ptr n row fld, v => n < c.m ∧ ∀ ob, c.o n = some ob → ∃ b base, c.β n = some (b, base) ∧ v = .pointer (some ⟨b, base + row * ob.sz + fld, none⟩)
  | .rptr cells, v => ∃ b off, v = .pointer (some ⟨b, off, none⟩) ∧ c.S b ∧ RdAt c.w c.S b off cells
  | .tup xs, v => ∃ vs : List Value, v = .tuple vs.toArray ∧ EVRs c xs vs
def EVRs (c : Cx) : List EV → List Value → Prop
  | [], [] => True
  | x :: xs, v :: vs => EVR c x v ∧ EVRs c xs vs
  | _, _ => False
end

def ObR (c : Cx) (n : Nat) : Obj → Prop
  | .arr sz rows => (∀ r ∈ rows, r.length = sz) ∧
      match c.β n with
      | none => rows = []
      | some (b, base) => ∃ cs T, c.w.heap[b]? = some (.cells cs T (0, 0)) ∧ base + rows.length * sz ≤ cs.size ∧
          ∀ (i j : Nat) r x, rows[i]? = some r → r[j]? = some x → ∃ v, cs[base + i * sz + j]? = some v ∧ Rd c.w c.S v x
  | .box cells => ∃ b cs T, c.β n = some (b, 0) ∧ c.w.heap[b]? = some (.cells cs T (0, 0)) ∧ EVRs c cells cs.toList

def SafeOf (G : Nat → Prop) (w : World) (β : Beta) (o : Heap) (b : Nat) : Prop :=
  b < w.heap.size ∧ (∀ n ob p, o n = some ob → β n = some p → p.1 ≠ b) ∧ G b
def cxOf (G : Nat → Prop) (w : World) (β : Beta) (st : St) : Cx := ⟨w, SafeOf G w β st.o, β, st.o, st.nx⟩

def ioB (io : List (Nat × Nat)) : List Nat := io.map (·.2)

/-- a later world: what was printed, and the system, are as they were -/
def WLe (w w' : World) : Prop := w.heap.size ≤ w'.heap.size ∧ w'.os = w.os ∧ w'.output = w.output
/-- the abstract state stands for the machine's: w0 is the world at the function's entry, io the blocks that it may write -/
structure SimB (G : Nat → Prop) (w0 : World) (io : List (Nat × Nat)) (st : St) (a : Act) (w : World) (β : Beta) : Prop where
  gset : ∀ n ob p, st.o n = some ob → β n = some p → G p.1
  gnew : ∀ b, w.heap.size ≤ b → G b
  ion : ∀ p ∈ io, p.1 < st.nx ∧ β p.1 = some (p.2, 0)
  defers : a.defers = []
  tmps : EVRs (cxOf G w β st) st.t a.tmps.toList
  objs : ∀ n ob, st.o n = some ob → ObR (cxOf G w β st) n ob
  mine : ∀ n ob b base, st.o n = some ob → β n = some (b, base) → (w0.heap.size ≤ b ∨ b ∈ ioB io) ∧ b < w.heap.size
  apart : ∀ n m ob ob' p q, st.o n = some ob → st.o m = some ob' → β n = some p → β m = some q → n ≠ m → p.1 ≠ q.1
  names : ∀ n ob, st.o n = some ob → n < st.nx
  grown : WLe w0 w
  keep : ∀ b, b < w0.heap.size → b ∉ ioB io → w.heap[b]? = w0.heap[b]?

def Sim (G : Nat → Prop) (w0 : World) (io : List (Nat × Nat)) (st : St) (a : Act) (w : World) : Prop := ∃ β, SimB G w0 io st a w β

/-! ### readings stay -/
theorem Rd.mono {w w' : World} {S S' : Nat → Prop} (hS : ∀ b, S b → S' b ∧ w'.heap[b]? = w.heap[b]?) :
    ∀ {v x}, Rd w S v x → Rd w' S' v x := by
  intro v x h
  induction h with
  | im v h => exact .im v h
  | nil a c sz => exact .nil a c sz
  | sl b off c sz rows f hb hc hz hv hr ih =>
    refine .sl b off c sz rows f (hS b hb).1 hc hz ?_ ih
    intro i j r d h1 h2
    have := hv i j r d h1 h2
    simpa [World.cell?, (hS b hb).2] using this

theorem RdL.mono {w w' : World} {S S' : Nat → Prop} (hS : ∀ b, S b → S' b ∧ w'.heap[b]? = w.heap[b]?) :
    ∀ {xs vs}, RdL w S xs vs → RdL w' S' xs vs
  | [], [], _ => trivial
  | _ :: _, _ :: _, h => ⟨h.1.mono hS, RdL.mono hS h.2⟩
  | [], _ :: _, h => h.elim
  | _ :: _, [], h => h.elim

theorem RdAt.mono {w w' : World} {S S' : Nat → Prop} (hS : ∀ b, S b → S' b ∧ w'.heap[b]? = w.heap[b]?) {b off cells} (hb : S b)
    (h : RdAt w S b off cells) : RdAt w' S' b off cells := by
  intro j x hx
  obtain ⟨u, h1, h2⟩ := h j x hx
  refine ⟨u, ?_, h2.mono hS⟩
  simpa [World.cell?, (hS b hb).2] using h1

/-- how a state of memory may go on to another: safe blocks stay; live objects that stay have the same place and shape, the same size of block -/
structure Cx.Le (c c' : Cx) : Prop where
  safe : ∀ b, c.S b → c'.S b ∧ c'.w.heap[b]? = c.w.heap[b]?
  names : c.m ≤ c'.m
  obj : ∀ n ob', n < c.m → c'.o n = some ob' → ∃ ob, c.o n = some ob ∧ ob.sz = ob'.sz ∧ c'.β n = c.β n ∧
    (∀ sz rows, ob = .arr sz rows → ∃ rows', ob' = .arr sz rows' ∧ rows.length ≤ rows'.length)
  blk : ∀ n ob' b base k, n < c.m → c'.o n = some ob' → c'.β n = some (b, base) → Blk c.w b k → Blk c'.w b k

mutual
theorem EVR.mono {c c' : Cx} (h : c.Le c') : ∀ (e : EV) (v : Value), EVR c e v → EVR c' e v
  | .dead, _, _ => by simp [EVR]
  | .d x, v, hv => by simp only [EVR] at *; exact hv.mono h.safe
  | .nil _, v, hv => by simp only [EVR] at *; exact hv
  | .agg cells, v, hv => by
    simp only [EVR] at *
    obtain ⟨vs, h1, h2⟩ := hv
    exact ⟨vs, h1, h2.mono h.safe⟩
  | .own n off len, v, hv => by
    simp only [EVR] at *
    refine ⟨Nat.lt_of_lt_of_le hv.1 h.names, ?_⟩
    intro ob' hob'
    obtain ⟨ob, hob, hsz, hβ, harr⟩ := h.obj n ob' hv.1 hob'
    replace hv := And.intro hv.1 hv.2
    have hn := hv.1
    replace hv := hv.2
    obtain ⟨sz, rows, rfl, hlen, hm⟩ := hv ob hob
    obtain ⟨rows', rfl, hle⟩ := harr sz rows rfl
    refine ⟨sz, rows', rfl, by omega, ?_⟩
    rw [hβ]
    cases hb : c.β n with
    | none => rw [hb] at hm; exact hm
    | some p =>
      obtain ⟨b, base⟩ := p
      rw [hb] at hm
      rcases hm with ⟨cap, k, h1, h2, h3, h4⟩ | hm
      · exact .inl ⟨cap, k, h1, h2, h.blk n _ b base k hn hob' (hβ.trans hb) h3, h4⟩
      · exact .inr hm
  | .ptr n row fld, v, hv => by
    simp only [EVR] at *
    refine ⟨Nat.lt_of_lt_of_le hv.1 h.names, ?_⟩
    intro ob' hob'
    obtain ⟨ob, hob, hsz, hβ, _⟩ := h.obj n ob' hv.1 hob'
    obtain ⟨b, base, h1, h2⟩ := hv.2 ob hob
    exact ⟨b, base, hβ.trans h1, by rw [← hsz]; exact h2⟩
  | .rptr cells, v, hv => by
    simp only [EVR] at *
    obtain ⟨b, off, h1, h2, h3⟩ := hv
    exact ⟨b, off, h1, (h.safe b h2).1, h3.mono h.safe h2⟩
  | .tup xs, v, hv => by
    simp only [EVR] at *
    obtain ⟨vs, h1, h2⟩ := hv
    exact ⟨vs, h1, EVRs.mono h xs vs h2⟩
theorem EVRs.mono {c c' : Cx} (h : c.Le c') : ∀ (es : List EV) (vs : List Value), EVRs c es vs → EVRs c' es vs
  | [], [], _ => by simp [EVRs]
  | e :: es, v :: vs, hv => by
    simp only [EVRs] at *
    exact ⟨EVR.mono h e v hv.1, EVRs.mono h es vs hv.2⟩
  | [], _ :: _, hv => by simp [EVRs] at hv
  | _ :: _, [], hv => by simp [EVRs] at hv
end

theorem EVRs.get {c : Cx} : ∀ {es : List EV} {vs : List Value} (i : Nat), EVRs c es vs → EVR c (es[i]?.getD .dead) (vs[i]?.getD undef)
  | [], [], _, _ => by simp [EVR]
  | e :: es, v :: vs, 0, h => by simp only [EVRs] at h; simpa using h.1
  | e :: es, v :: vs, i + 1, h => by simp only [EVRs] at h; simpa using EVRs.get i h.2
  | [], _ :: _, _, h => by simp [EVRs] at h
  | _ :: _, [], _, h => by simp [EVRs] at h

theorem EVRs.get' {c : Cx} : ∀ {es : List EV} {vs : List Value} {i : Nat} {e : EV}, EVRs c es vs → es[i]? = some e → ∃ v, vs[i]? = some v ∧ EVR c e v
  | [], [], _, _, _, he => by simp at he
  | e :: es, v :: vs, 0, _, h, he => by simp only [EVRs] at h; simp at he; subst he; exact ⟨v, by simp, h.1⟩
  | e :: es, v :: vs, i + 1, _, h, he => by simp only [EVRs] at h; simp at he; simpa using EVRs.get' h.2 he
  | [], _ :: _, _, _, h, _ => by simp [EVRs] at h
  | _ :: _, [], _, _, h, _ => by simp [EVRs] at h

theorem EVRs.set {c : Cx} : ∀ {es : List EV} {vs : List Value} (i : Nat) {e : EV} {v : Value}, EVRs c es vs → EVR c e v → EVRs c (es.set i e) (vs.set i v)
  | [], [], _, _, _, _, _ => by simp [EVRs]
  | e :: es, v :: vs, 0, _, _, h, he => by simp only [EVRs] at h; simp only [List.set_cons_zero, EVRs]; exact ⟨he, h.2⟩
  | e :: es, v :: vs, i + 1, _, _, h, he => by simp only [EVRs] at h; simp only [List.set_cons_succ, EVRs]; exact ⟨h.1, EVRs.set i h.2 he⟩
  | [], _ :: _, _, _, _, h, _ => by simp [EVRs] at h
  | _ :: _, [], _, _, _, h, _ => by simp [EVRs] at h

theorem EVRs.length {c : Cx} : ∀ {es : List EV} {vs : List Value}, EVRs c es vs → es.length = vs.length
  | [], [], _ => rfl
  | e :: es, v :: vs, h => by simp only [EVRs] at h; simp [EVRs.length h.2]
  | [], _ :: _, h => by simp [EVRs] at h
  | _ :: _, [], h => by simp [EVRs] at h

def cv : Value → EV
  | .int k n => .d (.im (.int k n))
  | .bool b => .d (.im (.bool b))
  | .string s => .d (.im (.string s))
  | _ => .dead

def ev (st : St) : Operand → EV
  | .tmp t => (st.t[t]?).getD .dead
  | .const v => cv v
  | .func f => .d (.im (.func (.func f) #[] #[]))
  | .global _ => .dead

def evT (ti : TI) (t : TypeId) (st : St) : Operand → EV
  | .const (.slice none 0 0) => .nil (elemSz ti t)
  | x => ev st x

def St.put (st : St) (dst : Option Tmp) (e : EV) : St := match dst with | some d => { st with t := st.t.set d e } | none => st

section
variable {G : Nat → Prop} {w0 : World} {io : List (Nat × Nat)} {st : St} {a : Act} {w : World} {β : Beta}

theorem cv_rel {c : Cx} (v : Value) : EVR c (cv v) v := by
  unfold cv; split <;> simp only [EVR] <;> exact .im _ rfl

theorem ev_rel (h : SimB G w0 io st a w β) (x : Operand) : EVR (cxOf G w β st) (ev st x) (a.eval x) := by
  cases x with
  | tmp t =>
    have := h.tmps.get t
    simpa [ev, Act.eval, Array.getD_eq_getD_getElem?] using this
  | const v => exact cv_rel v
  | global g => simp [ev, EVR]
  | func f => simp only [ev, EVR]; exact .im _ rfl

theorem evT_rel (h : SimB G w0 io st a w β) (ti : TI) (t : TypeId) (x : Operand) : EVR (cxOf G w β st) (evT ti t st x) (a.eval x) := by
  unfold evT
  split
  · simp [EVR, Act.eval]
  · exact ev_rel h x

theorem put_rel {dst : Option Tmp} {e : EV} {v : Value} (h : SimB G w0 io st a w β) (he : EVR (cxOf G w β st) e v) :
    SimB G w0 io (st.put dst e) (a.put dst v) w β := by
  cases dst with
  | none => exact h
  | some d =>
    exact { h with
      defers := h.defers
      tmps := by have := h.tmps.set d he; simpa [St.put, Act.put, cxOf] using this }
end
end Go.RX

/- VX, part 18: tables of contracts; loops. -/
import Derived.Test.YtpcmbchibhcdiaaDoorVx17
import Derived.IntWalk
namespace Go.RX
open Go

theorem Con.weaken {P : Program} {W0 : World} {f : FuncId} {fresh : Bool} {args : List AV} {post post' : Post} (h : Con P W0 f fresh args post) (hp : ∀ rs ios, post rs ios → post' rs ios) : Con P W0 f fresh args post' := by
  refine ⟨h.1, fun w S vals io h1 h2 h3 h4 h5 => Calls.mono (h.2 w S vals io h1 h2 h3 h4 h5) ?_⟩
  rintro e w' ⟨rs, ios, vs, obs, hpost, h⟩
  exact ⟨rs, ios, vs, obs, hp _ _ hpost, h⟩

abbrev CE := List VA → (List VR → List (List VV) → Prop) → Prop
def callO (avs : List VA) (K : List VR → List (List VV) → Prop) : Option CE → Prop
  | some c => c avs K
  | none => False
def callT (l : List (Nat × CE)) (f : FuncId) (avs : List VA) (K : List VR → List (List VV) → Prop) : Prop := callO avs K (lk l f)
/-- a contract that holds -/
def EntOk (P : Program) (W0 : World) (f : FuncId) (fresh : Bool) (c : CE) : Prop := ∀ avs K, c avs K → ∃ rs ios, K rs ios ∧ (∀ K' : List VR → List (List VV) → Prop, K' rs ios → c avs K') ∧ rs.length ≤ 8 ∧ rs.all VR.ok = true ∧
    (∀ c ∈ ios, ∀ x ∈ c, x.1.ok = true ∧ x.1.atom = true) ∧ Con P W0 f fresh (avs.map VA.av) (fun r i => r = rs.map VR.rv ∧ i = ios.map fun c => c.map vvD)

theorem VOk.step {ty : TypeId → Option Ty} {oth eqT : TypeId → Bool} {fr : FuncId → Bool} {l : List (Nat × CE)} {ren : En} (H : VOk ⟨ty, oth, eqT, callT l, fr⟩ ren) {g : Nat} {fresh : Bool} {c : CE} (hfr : ren.fr g = fresh) (he : EntOk ren.P ren.W0 g fresh c) : VOk ⟨ty, oth, eqT, callT ((g, c) :: l), fr⟩ ren where
  ty := H.ty
  oth := H.oth
  eqT := H.eqT
  fr := H.fr
  call := fun f avs K hc => by
    simp only [callT, lk] at hc ⊢
    cases hb : Nat.beq g f with
    | true =>
      have := Nat.eq_of_beq_eq_true hb
      subst this
      simp only [hb, cond_true] at hc ⊢
      rw [hfr]
      exact he avs K hc
    | false =>
      simp only [hb, cond_false] at hc ⊢
      exact H.call f avs K hc
def isOth : Option TK → Bool
  | some .oth => true
  | _ => false
theorem isOth_iff {k : Option TK} (h : isOth k = true) : k = some .oth := by
  unfold isOth at h
  split at h
  · rfl
  · cases h
theorem VOk.base {tab : List (Nat × Ty)} {oth eqs : List Nat} {fr : FuncId → Bool} {ren : En} (h1 : (tab.all fun p => rowTy ren.ti p.1 p.2) = true) (h2 : (oth.all fun t => isOth (ren.ti t)) = true) (h3 : (eqs.all fun t => eqOkB ren.P ren.ti t) = true) (h4 : ∀ f, fr f = ren.fr f) :
    VOk ⟨fun t => lk tab t, fun t => memN t oth, fun t => memN t eqs, callT [], fr⟩ ren where
  ty := fun t T h => List.all_eq_true.mp h1 _ (lk_mem h)
  oth := fun t h => isOth_iff (List.all_eq_true.mp h2 _ (memN_iff'.mp h))
  eqT := fun t h => List.all_eq_true.mp h3 _ (memN_iff'.mp h)
  fr := h4
  call := fun f avs K hc => hc.elim

theorem conOf {ven : VEn} {ren : En} (HP : TIok ren.P ren.ti) (hm : ren.P.follows .mixedOrders = true) (H : VOk ven ren) {g : FuncId} {fn : Func} {body : Code} {args : List VA} {an : Ann} {post : List VR → List (List VV) → Prop} {m : List Bool} {fresh : Bool} {ios iols : List Nat}
    (hf : ren.P.funcs[g]? = some fn) (hb : fn.body = some body) (hname : (fn.name == "runtime.NumGoroutine") = false) (hfr : ren.fr g = fresh)
    (hok : args.all VA.ok = true) (hnt : args.length ≤ fn.ntmps) (hio : ioVA 0 args = ios) (h4 : ios.all (fun n => Nat.blt n 4) = true) (hil : ioLen args = iols)
    (hk : vwp ven fn.ntmps body an (vfin ven.ty fresh fn.results.toList m ios iols post) (vinit args)) {vrs : List VR} {vios : List (List VV)} (hp : ∀ r i, post r i → r = vrs ∧ i = vios) :
    Con ren.P ren.W0 g fresh (args.map VA.av) (fun r i => r = vrs.map VR.rv ∧ i = vios.map fun c => c.map vvD) := by
  subst hfr
  subst hio
  subst hil
  have h4' : (ioVA 0 args).all (fun n => decide (n < 4)) = true := by
    rw [List.all_eq_true] at h4 ⊢
    intro n hn
    exact decide_eq_true (Nat.le_of_ble_eq_true (h4 n hn))
  refine (vCon HP hm H hf hb hname hok hnt h4' hk).weaken ?_
  rintro rs ios ⟨r, i, h1, h2, h3⟩
  obtain ⟨rfl, rfl⟩ := hp r i h1
  exact ⟨h2, h3⟩

/-- A LOOP: what holds, and what falls. -/
theorem LoopP.rule {S : Type} {F : (S → Prop) → S → Prop} (I : S → Prop) (μ : S → Nat) (h : ∀ (next : S → Prop) s, I s → (∀ s', I s' → μ s' < μ s → next s') → F next s) {s0 : S} (h0 : I s0) : LoopP F s0 := by
  have key : ∀ n s, I s → μ s < n → itP F n s := by
    intro n
    induction n with
    | zero => intro s _ hlt; exact absurd hlt (Nat.not_lt_zero _)
    | succ n ih => intro s hI hlt; exact h _ s hI fun s' hI' hlt' => ih s' hI' (by omega)
  exact ⟨μ s0 + 1, key _ _ h0 (Nat.lt_succ_self _)⟩
def bodyOf (f : Func) : Code := match f.body with | some c => c | none => .skip

/-! ### numbers -/
theorem wrap64 {x : Int} (h1 : -9223372036854775808 ≤ x) (h2 : x ≤ 9223372036854775807) : IntKind.wrap .i64 x = x := IntWalk.i64_in x ⟨h1, h2⟩
theorem iadd64 {a b : Int} (h1 : -9223372036854775808 ≤ a + b) (h2 : a + b ≤ 9223372036854775807) : iadd .i64 a b = a + b := wrap64 h1 h2
theorem isub64 {a b : Int} (h1 : -9223372036854775808 ≤ a - b) (h2 : a - b ≤ 9223372036854775807) : isub .i64 a b = a - b := wrap64 h1 h2
theorem imul64 {a b : Int} (h1 : -9223372036854775808 ≤ a * b) (h2 : a * b ≤ 9223372036854775807) : imul .i64 a b = a * b := wrap64 h1 h2

def Eq1 {α : Type} (a : α) : α → Prop := fun x => a = x
def Eq2 {α β : Type} (a : α) (b : β) : α → β → Prop := fun x y => a = x ∧ b = y
def Eq3 {α β γ : Type} (a : α) (b : β) (c : γ) : α → β → γ → Prop := fun x y z => a = x ∧ b = y ∧ c = z
def Eq4 {α β γ δ : Type} (a : α) (b : β) (c : γ) (d : δ) : α → β → γ → δ → Prop := fun x y z u => a = x ∧ b = y ∧ c = z ∧ d = u
def Eq5 {α β γ δ ε : Type} (a : α) (b : β) (c : γ) (d : δ) (e : ε) : α → β → γ → δ → ε → Prop := fun x y z u v => a = x ∧ b = y ∧ c = z ∧ d = u ∧ e = v
def Eq6 {α β γ δ ε ζ : Type} (a : α) (b : β) (c : γ) (d : δ) (e : ε) (f : ζ) : α → β → γ → δ → ε → ζ → Prop := fun x y z u v w => a = x ∧ b = y ∧ c = z ∧ d = u ∧ e = v ∧ f = w
end Go.RX

/- RX, part 30 (between 18 and 19): regions that draw their order and lay blocks: a plan of the orders. -/
import Derived.Test.YtpcmbchibhcdiaaDoorRx18
import Derived.Deep.LoopGhost
import Derived.Deep.Quiet
namespace Go.RX
open Go

def guardE (all : Array Oper) (st : St) (j : Nat) : Option Bool :=
  match (all[j]?).bind (·.dst) with
  | some d => (match st.t[d]? with | some (.d (.im (.bool b))) => some b | _ => none)
  | none => none

/-- an operation that leaves all the blocks that stand -/
def frameOp : Op → Bool
  | .call { callee := .value (.func _), args := _, argTypes := _ } => true
  | o => rdOp o || pushOp o
def frameAt (ops : Array Oper) (i : Nat) : Bool := match ops[i]? with | some o => frameOp o.op | none => true

section any
variable {P : Program} {ops : Array Oper} {Q : Exit → Act → World → Prop}

def wpAnyK (P : Program) (ops : Array Oper) (Q : Exit → Act → World → Prop) : Nat → Array Bool → Act → World → Prop
  | 0, listed, a, w => Region.ready .any ops listed = [] ∧ Q .normal a w
  | fuel + 1, listed, a, w =>
    (Region.ready .any ops listed = [] → Q .normal a w) ∧
    ∀ i ∈ Region.ready .any ops listed, wpOp P ops Q i (fun a' w' => (frameAt ops i = true → Keeps w w') ∧ wpAnyK P ops Q fuel (listed.setIfInBounds i true) a' w') a w

theorem wpAny_of_K : ∀ (fuel : Nat) (listed : Array Bool) (a : Act) (w : World), wpAnyK P ops Q fuel listed a w → wpAny P .any ops Q fuel listed a w
  | 0, _, _, _, h => h
  | fuel + 1, _, _, _, h => ⟨h.1, fun i hi => wpOp_mono (fun a' w' h' => wpAny_of_K fuel _ a' w' h'.2) (h.2 i hi)⟩

theorem yieldsIf_weaken {S S' : World → Prop} (hS : ∀ w, S' w → S w) {o : Oper} {v : Value} {a : Act} (h : YieldsIf P ops S o v a) : YieldsIf P ops S' o v a :=
  h.imp (fun ⟨h1, h2⟩ => ⟨h1, fun w hw => h2 w (hS w hw)⟩) id

theorem wpAnyK_first {i : Nat} {oi : Oper} {v : Value} (hi : ops[i]? = some oi) (hsel : ∀ (j : Nat) (o : Oper) cs b, ops[j]? = some o → o.op ≠ .select cs b)
    (hQ : ∀ c a w, Q (.panic c) (a.put oi.dst v) w → Q (.panic c) a w) :
    ∀ (fuel : Nat) (listed : Array Bool) (a : Act) (w : World),
      (∀ j oj, ops[j]? = some oj → j ≠ i → listed.getD j true = false → (∀ e ∈ oj.after, Region.binds .any e = true → e.on ≠ i) → oi.apart ops oj = true ∧ frameAt ops j = true) →
      i ∈ Region.ready .any ops listed → YieldsIf P ops (Keeps w) oi v a →
      wpAnyK P ops Q fuel (listed.setIfInBounds i true) (a.put oi.dst v) w → wpAnyK P ops Q (fuel + 1) listed a w := by
  intro fuel
  induction fuel with
  | zero =>
    intro listed a w _ hr hy H
    refine ⟨fun h => (by rw [h] at hr; cases hr), fun j hj => ?_⟩
    by_cases hji : j = i
    · subst hji; exact hy.wpOp hi (Keeps.refl w) ⟨fun _ => Keeps.refl w, H⟩
    · have := ready_mono hj hji
      rw [H.1] at this
      cases this
  | succ fuel ih =>
    intro listed a w hfree hr hy H
    refine ⟨fun h => (by rw [h] at hr; cases hr), fun j hj => ?_⟩
    by_cases hji : j = i
    · subst hji; exact hy.wpOp hi (Keeps.refl w) ⟨fun _ => Keeps.refl w, H⟩
    · have h1 := H.2 j (ready_mono hj hji)
      obtain ⟨hjun, oj, hoj, hall⟩ := mem_ready.1 hj
      have hnot : ∀ e ∈ oj.after, Region.binds .any e = true → e.on ≠ i := fun e he hb heq => by
        have h1 := hall e he hb
        have h0 := (mem_ready.1 hr).1
        rw [heq] at h1
        rcases Nat.lt_or_ge i listed.size with h' | h'
        · simp [h'] at h0 h1; rw [h0] at h1; cases h1
        · simp [Array.getElem?_eq_none h'] at h1
      have hfj := hfree j oj hoj hji hjun hnot
      have h2 := wpOp_putIf hoj hfj.1 (fun cs b => hsel i oi cs b hi) (fun cs b => hsel j oj cs b hoj) hQ hy h1
      have hfree' : ∀ k ok, ops[k]? = some ok → k ≠ i → (listed.setIfInBounds j true).getD k true = false →
          (∀ e ∈ ok.after, Region.binds .any e = true → e.on ≠ i) → oi.apart ops ok = true ∧ frameAt ops k = true := fun k ok hk hki hun hno => by
        refine hfree k ok hk hki ?_ hno
        by_cases hjk : j = k
        · subst hjk; exact hjun
        · rw [getD_set_ne true hjk] at hun; exact hun
      refine wpOp_mono (fun a' w' h3 => ?_) h2
      have hkw := h3.2.1 hfj.2
      refine ⟨fun _ => hkw, ih (listed.setIfInBounds j true) a' w' hfree' (ready_mono hr (Ne.symm hji)) (yieldsIf_weaken (fun w2 h => hkw.trans h) h3.1) ?_⟩
      rw [Array.setIfInBounds_comm _ _ hji]
      exact h3.2.2

theorem wpAnyK_done {listed : Array Bool} {a : Act} {w : World} (hr : Region.ready .any ops listed = []) (h : Q .normal a w) : ∀ fuel, wpAnyK P ops Q fuel listed a w
  | 0 => ⟨hr, h⟩
  | _ + 1 => ⟨fun _ => h, by rw [hr]; simp⟩
end any

inductive Plan where
  | done
  | take (i : Nat) (p : Plan)
  | alt (i : Nat) (p rest : Plan)
  | nil

def Plan.heads : Plan → List Nat
  | .alt i _ r => i :: r.heads
  | _ => []

/-- operation i may be taken first: it reads; each that does not wait for it is apart from it and lays blocks at most -/
def freeK (ops : Array Oper) (listed : Array Bool) (i : Nat) : Bool :=
  match ops[i]? with
  | none => false
  | some oi => rdOp oi.op && (List.range ops.size).all fun j => j == i || listed.getD j true || match ops[j]? with
      | some oj => oj.after.any (fun e => Region.binds .any e && e.on == i) || (oi.apart ops oj && frameOp oj.op)
      | none => true

def planOk (ops : Array Oper) : Plan → Bool → Nat → Array Bool → Bool
  | .done, _, _, listed => (Region.ready .any ops listed).isEmpty
  | .take i p, _, fuel + 1, listed => (Region.ready .any ops listed).contains i && freeK ops listed i && planOk ops p true fuel (listed.setIfInBounds i true)
  | .alt i p r, top, fuel + 1, listed => (!top || (Region.ready .any ops listed == i :: r.heads)) && planOk ops p true fuel (listed.setIfInBounds i true) && planOk ops r false (fuel + 1) listed
  | .nil, top, _, _ => !top
  | _, _, _, _ => false

def EWcallK (en : En) (f : FuncId) (ts : List TypeId) (xs : List Operand) (dst : Option Tmp) (st : St) (K : St → Prop) : Prop :=
  EWcall en f ts xs dst st K ∧ ioNames (evTs en.ti (frzArgs (en.fr f) st (evTs en.ti st ts xs)) ts xs) = []
def EWopK (en : En) (o : Oper) (st : St) (K : St → Prop) : Prop :=
  match o.op with
  | .call { callee := .value (.func f), args, argTypes } => EWcallK en f argTypes.toList args.toList o.dst st K
  | _ => EWop en o st K
/-- under its guard -/
def EWg (all : Array Oper) (o : Oper) (X : (St → Prop) → St → Prop) (K : St → Prop) (st : St) : Prop := match o.guard with
  | none => X K st
  | some (j, want) => ∃ b, guardE all st j = some b ∧ (b = want → X K st) ∧ (b = !want → K (st.put o.dst .dead))
def EWplan (en : En) (ops : Array Oper) : Plan → (St → Prop) → St → Prop
  | .done, K, st => K st
  | .take i p, K, st => ∃ o, ops[i]? = some o ∧ EWg ops o (fun K st => EWop en o st K) (EWplan en ops p K) st
  | .alt i p r, K, st => (∃ o, ops[i]? = some o ∧ EWg ops o (fun K st => EWopK en o st K) (EWplan en ops p K) st) ∧ EWplan en ops r K st
  | .nil, _, _ => True

section
variable {G : Nat → Prop} {w0 : World} {io : List (Nat × Nat)}

theorem yielded_rel {st : St} {a : Act} {w : World} {β : Beta} (h : SimB G w0 io st a w β) {all : Array Oper} {j : Nat} {b : Bool} (hg : guardE all st j = some b) : yielded all a.tmps j = some b := by
  unfold guardE at hg
  split at hg
  case h_2 => simp at hg
  rename_i d hd
  split at hg
  case h_2 => simp at hg
  rename_i b' hb
  simp at hg; subst hg
  obtain ⟨v, hv, hr⟩ := EVRs.get' h.tmps hb
  have : v = .bool b' := evr_im hr
  subst this
  have hv' : a.tmps[d]? = some (.bool b') := by simpa using hv
  simp [yielded, hd, hv']

theorem opK_sound {en : En} (H : TIok en.P en.ti) (hW : Ext en.W0 w0) (hio : ∀ b ∈ ioB io, en.W0.heap.size ≤ b) {o : Oper} {K : St → Prop} {Q : Exit → Act → World → Prop} {st : St} {a : Act} {w : World} {β : Beta}
    (h : SimB G w0 io st a w β) (hk : EWopK en o st K) : o.wp en.P a w (fun a' w' => (frameOp o.op = true → Keeps w w') ∧ Nx G w0 io K a' w') Q := by
  unfold EWopK at hk
  split at hk
  · rename_i f args argTypes ho
    obtain ⟨hk, hno⟩ := hk
    obtain ⟨hc, hcalls⟩ := EWcall_sound h hW hio hk
    have hrun : (execOp a.eval o).run en.P w = .ok (.enter f (args.map a.eval)) w := by
      simp [execOp, ho, resolve, Deferred.ofValue, Act.eval, invoke, callFunc_run hc]
    unfold Oper.wp
    rw [hrun, Oper.upon_enter]
    have e1 : (args.toList.map a.eval).toArray = args.map a.eval := by apply Array.ext'; simp
    rw [e1] at hcalls
    refine hcalls.mono ?_
    rintro e w' ⟨v, rfl, hkp, st', β', hk', hs⟩
    exact ⟨fun _ => hkp hno, st', β', hk', hs⟩
  · rename_i hnc
    by_cases hr : rdOp o.op = true
    · obtain ⟨v, h1, h2⟩ := op_read_sound H h hr hk
      exact op_val (N := fun a' w' => (frameOp o.op = true → Keeps w w') ∧ Nx G w0 io K a' w') (h1 w (Keeps.refl w)) ⟨fun _ => Keeps.refl w, h2⟩
    by_cases hp : pushOp o.op = true
    · exact Oper.wp_mono (fun a' w' h => ⟨fun _ => h.1, h.2⟩) (op_push_sound H h hp hk)
    refine Oper.wp_mono (fun a' w' h => ⟨fun hf => ?_, h⟩) (op_sound H h hW hio hk)
    exfalso
    unfold frameOp at hf
    split at hf
    · rename_i ho; exact hnc _ _ _ ho
    · simp [hr, hp] at hf

theorem plan_sound {en : En} (H : TIok en.P en.ti) (hW : Ext en.W0 w0) (hio : ∀ b ∈ ioB io, en.W0.heap.size ≤ b) {ops : Array Oper} (hs : Region.noSelect ops = true) {K : St → Prop} {Q : Exit → Act → World → Prop}
    (hQn : ∀ a w, Nx G w0 io K a w → Q .normal a w) (hQp : ∀ c a w, ¬ Q (.panic c) a w) : ∀ (p : Plan) (top : Bool) (fuel : Nat) (listed : Array Bool) {st : St} {a : Act} {w : World} {β : Beta},
    planOk ops p top fuel listed = true → SimB G w0 io st a w β → EWplan en ops p K st →
      (top = true → wpAnyK en.P ops Q fuel listed a w) ∧
      (∀ i ∈ p.heads, ∃ f', fuel = f' + 1 ∧ wpOp en.P ops Q i (fun a' w' => (frameAt ops i = true → Keeps w w') ∧ wpAnyK en.P ops Q f' (listed.setIfInBounds i true) a' w') a w) := by
  intro p
  induction p with
  | done =>
    intro top fuel listed st a w β hok h hk
    refine ⟨fun _ => wpAnyK_done (by simpa [planOk] using hok) (hQn _ _ ⟨st, β, hk, h⟩) fuel, by simp [Plan.heads]⟩
  | nil =>
    intro top fuel listed st a w β hok h hk
    refine ⟨fun ht => by subst ht; simp [planOk] at hok, by simp [Plan.heads]⟩
  | take i p ih =>
    intro top fuel listed st a w β hok h hk
    refine ⟨fun _ => ?_, by simp [Plan.heads]⟩
    cases fuel with
    | zero => simp [planOk] at hok
    | succ fuel =>
      simp only [planOk, Bool.and_eq_true] at hok
      obtain ⟨⟨hr, hf⟩, hok⟩ := hok
      obtain ⟨o, ho, hg⟩ := hk
      simp only [freeK, ho, Bool.and_eq_true, List.all_eq_true, List.mem_range] at hf
      obtain ⟨hrd, hfree⟩ := hf
      have key : ∃ v, YieldsIf en.P ops (Keeps w) o v a ∧ ∃ st' β', EWplan en ops p K st' ∧ SimB G w0 io st' (a.put o.dst v) w β' := by
        have run : EWop en o st (EWplan en ops p K) → Region.wanted o (yielded ops a.tmps) = true → ∃ v, YieldsIf en.P ops (Keeps w) o v a ∧ ∃ st' β', EWplan en ops p K st' ∧ SimB G w0 io st' (a.put o.dst v) w β' := by
          intro h1 h2
          obtain ⟨v, h3, st', β', h4, h5⟩ := op_read_sound H h hrd h1
          exact ⟨v, .inl ⟨h2, h3⟩, st', β', h4, h5⟩
        unfold EWg at hg
        split at hg
        · rename_i hgd
          exact run hg (by simp [Region.wanted, hgd])
        · rename_i j want hgd
          obtain ⟨b, hb, hg1, hg2⟩ := hg
          have hy := yielded_rel h hb
          by_cases hbw : b = want
          · exact run (hg1 hbw) (by simp [Region.wanted, hgd, hy, hbw])
          · exact ⟨undef, .inr ⟨by simp [Region.wanted, hgd, hy, hbw], rfl⟩, _, β, hg2 (by cases b <;> cases want <;> simp_all), put_rel h (by simp [EVR])⟩
      obtain ⟨v, hy, st', β', hK, hS⟩ := key
      refine wpAnyK_first ho (Region.noSelect_spec hs) (fun c a w h => absurd h (hQp _ _ _)) fuel listed a w ?_ (by simpa using hr) hy ((ih true fuel _ hok hS hK).1 rfl)
      intro j oj hj hne hun hno
      have h1 := hfree j (Array.getElem?_eq_some_iff.1 hj).1
      simp only [hj, Bool.or_eq_true, beq_iff_eq, hne, false_or, hun, Bool.false_eq_true] at h1
      rcases h1 with h1 | h1
      · obtain ⟨e, he, hb⟩ := Array.any_eq_true'.1 h1
        simp only [Bool.and_eq_true, beq_iff_eq] at hb
        exact absurd hb.2 (hno e he hb.1)
      · simp only [Bool.and_eq_true] at h1
        exact ⟨h1.1, by simp [frameAt, hj, h1.2]⟩
  | alt i p r ihp ihr =>
    intro top fuel listed st a w β hok h hk
    cases fuel with
    | zero => simp [planOk] at hok
    | succ fuel =>
      simp only [planOk, Bool.and_eq_true] at hok
      obtain ⟨⟨hhd, hokp⟩, hokr⟩ := hok
      obtain ⟨⟨o, ho, hg⟩, hkr⟩ := hk
      have hi : wpOp en.P ops Q i (fun a' w' => (frameAt ops i = true → Keeps w w') ∧ wpAnyK en.P ops Q fuel (listed.setIfInBounds i true) a' w') a w := by
        have run : EWopK en o st (EWplan en ops p K) → Region.wanted o (yielded ops a.tmps) = true → wpOp en.P ops Q i (fun a' w' => (frameAt ops i = true → Keeps w w') ∧ wpAnyK en.P ops Q fuel (listed.setIfInBounds i true) a' w') a w := by
          intro h1 h2
          unfold wpOp
          simp only [ho, h2, if_true]
          refine .inl (Oper.wp_mono (fun a' w' h => ?_) (opK_sound H hW hio h h1))
          obtain ⟨st', β', h3, h4⟩ := h.2
          exact ⟨fun hf => h.1 (by simpa [frameAt, ho] using hf), (ihp true fuel _ hokp h4 h3).1 rfl⟩
        unfold EWg at hg
        split at hg
        · rename_i hgd
          exact run hg (by simp [Region.wanted, hgd])
        · rename_i j want hgd
          obtain ⟨b, hb, hg1, hg2⟩ := hg
          have hy := yielded_rel h hb
          by_cases hbw : b = want
          · exact run (hg1 hbw) (by simp [Region.wanted, hgd, hy, hbw])
          · unfold wpOp
            have hw : Region.wanted o (yielded ops a.tmps) = false := by simp [Region.wanted, hgd, hy, hbw]
            simp only [ho, hw, Bool.false_eq_true, if_false]
            exact ⟨fun _ => Keeps.refl w, (ihp true fuel _ hokp (put_rel h (by simp [EVR])) (hg2 (by cases b <;> cases want <;> simp_all))).1 rfl⟩
      have hheads : ∀ k ∈ (Plan.alt i p r).heads, ∃ f', fuel + 1 = f' + 1 ∧ wpOp en.P ops Q k (fun a' w' => (frameAt ops k = true → Keeps w w') ∧ wpAnyK en.P ops Q f' (listed.setIfInBounds k true) a' w') a w := by
        intro k hk
        simp only [Plan.heads, List.mem_cons] at hk
        rcases hk with rfl | hk
        · exact ⟨fuel, rfl, hi⟩
        · exact (ihr false (fuel + 1) listed hokr h hkr).2 k hk
      refine ⟨fun ht => ?_, hheads⟩
      subst ht
      simp only [Bool.not_true, Bool.false_or, beq_iff_eq] at hhd
      refine ⟨fun h0 => by rw [hhd] at h0; simp at h0, fun k hk => ?_⟩
      rw [hhd] at hk
      obtain ⟨f', hf', hw⟩ := hheads k (by simpa [Plan.heads] using hk)
      have : f' = fuel := by omega
      subst this
      exact hw
end
end Go.RX

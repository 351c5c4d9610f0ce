/- VX: regions that draw their order. -/
import Derived.Test.YtpcmbchibhcdiaaDoorVxF
namespace Go.RX
open Go
variable {nt : Nat} {ven : VEn} {ren : En} {G : Nat → Prop} {w0 : World} {io : List (Nat × Nat)}

def OneR (ven : VEn) (b : Nat) (s : VSt) (o : Oper) (e : Eff) : Prop := ∀ K' : TV → Ups → Prop, K' e.v e.us → vop ven b s.h s.t o K'
def GRun (all : List Oper) (o : Oper) (s : VSt) : Prop := o.guard = none ∨ ∃ j want, o.guard = some (j, want) ∧ ∃ d, gtmp all j = some d ∧ lk s.t d = some (.a (.v .bool want))
def GSkip (all : List Oper) (o : Oper) (s : VSt) : Prop := ∃ j want, o.guard = some (j, want) ∧ ∃ d, gtmp all j = some d ∧ (lk s.t d = some (.tup []) ∨ lk s.t d = some (.a (.v .bool (!want))))
def Fact (nt : Nat) (ven : VEn) (all : List Oper) (base i : Nat) (o : Oper) (e : Eff) (s : VSt) : Prop :=
  dstOk nt o.dst = true ∧ e.dst = o.dst ∧ ((GRun all o s ∧ OneR ven (base + 8 * i) s o e ∧ e.acc = accOf i s.h s.t o e.us) ∨ (e.v = .tup [] ∧ e.us = [] ∧ e.acc = ⟨i, [], [], [], []⟩ ∧ GSkip all o s))
def IndB (x a : AccE) : Bool := disjN x.wr a.fp && disjN x.wr a.wr && disjN a.wr x.fp && disjN x.kl a.lv && disjN a.kl x.lv
def Ind (b : Nat) (x a : AccE) : Prop := b.testBit a.i = true ∨ IndB x a = true
theorem indep_iff {b : Nat} {x : AccE} : ∀ {l : List AccE}, indep b x l = true → ∀ a ∈ l, Ind b x a
  | [], _, _, ha => by cases ha
  | y :: l, h, a, ha => by
    simp only [indep, Bool.and_eq_true, Bool.or_eq_true] at h
    rcases List.mem_cons.mp ha with rfl | ha
    · rcases h.1 with h1 | h1
      · exact .inl h1
      · right; simp only [IndB, Bool.and_eq_true]; exact h1
    · exact indep_iff h.2 a ha
theorem disjN_nil : ∀ {l : List Nat}, disjN l [] = true
  | [] => rfl
  | n :: l => by simp only [disjN, memN]; exact disjN_nil
theorem indB_nilL {i : Nat} {a : AccE} : IndB ⟨i, [], [], [], []⟩ a = true := by simp [IndB, disjN, disjN_nil]
theorem indB_nilR {i : Nat} {a : AccE} : IndB a ⟨i, [], [], [], []⟩ = true := by simp [IndB, disjN, disjN_nil]

/-! ### what does not depend on how a state is written -/
theorem fpA_same {h h' : VH} (H : ∀ n, hget h n = hget h' n) (a : TA) : fpA h a = fpA h' a := by
  cases a with
  | ptr n r k => simp only [fpA, H n]
  | _ => rfl
theorem vo_same {t t' : VT} (T : ∀ d, lk t d = lk t' d) (x : Operand) : vo t x = vo t' x := vo_ag (by cases x <;> first | exact T _ | trivial)
theorem fpL_same {h h' : VH} {t t' : VT} (H : ∀ n, hget h n = hget h' n) (T : ∀ d, lk t d = lk t' d) : ∀ (xs : List Operand), fpL h t xs = fpL h' t' xs
  | [] => rfl
  | x :: xs => by simp only [fpL, vo_same T, fpA_same H, fpL_same H T xs]
theorem fpO_same {h h' : VH} {t t' : VT} (H : ∀ n, hget h n = hget h' n) (T : ∀ d, lk t d = lk t' d) (o : Oper) : fpO h t o = fpO h' t' o := by
  obtain ⟨dst, op, ty, sp, after, guard⟩ := o
  cases op <;> first | rfl | exact fpL_same H T _ | skip
  rename_i x i
  simp only [fpO]
  rw [vopTup_ag (t := t) (t' := t') (by cases x <;> first | exact T _ | trivial)]
  cases vopTup t' i x with
  | none => rfl
  | some a => exact fpA_same H a
theorem lvO_same {t t' : VT} (T : ∀ d, lk t d = lk t' d) (o : Oper) : lvO t o = lvO t' o := by
  obtain ⟨dst, op, ty, sp, after, guard⟩ := o
  cases op <;> first | rfl | simp only [lvO, vo_same T]
theorem klN_same {h h' : VH} (H : ∀ n, hget h n = hget h' n) : ∀ (us : Ups), klN h us = klN h' us
  | [] => rfl
  | u :: us => by simp only [klN, H, klN_same H us]
theorem accOf_same {s s' : VSt} (H : Same s s') (i : Nat) (o : Oper) (us : Ups) : accOf i s.h s.t o us = accOf i s'.h s'.t o us := by
  simp only [accOf, fpO_same H.h H.t, lvO_same H.t, klN_same H.h]
theorem opAg_same {t t' : VT} (T : ∀ d, lk t d = lk t' d) (x : Operand) : opAg t t' x := by cases x <;> first | exact T _ | trivial
theorem OneR.same {b : Nat} {s s' : VSt} {o : Oper} {e : Eff} (H : Same s s') (h : OneR ven b s o e) : OneR ven b s' o e := by
  intro K' hk
  have h1 := h K' hk
  rw [vop_agT (t' := s'.t) fun x _ => opAg_same H.t x] at h1
  exact vop_agH (fun n _ => H.h n) (fun n _ hl => by rw [← H.h n]; exact hl) h1
theorem GRun.same {all : List Oper} {o : Oper} {s s' : VSt} (H : Same s s') (h : GRun all o s) : GRun all o s' := by
  rcases h with h | ⟨j, want, h1, d, h2, h3⟩
  · exact .inl h
  · exact .inr ⟨j, want, h1, d, h2, by rw [← H.t d]; exact h3⟩
theorem GSkip.same {all : List Oper} {o : Oper} {s s' : VSt} (H : Same s s') (h : GSkip all o s) : GSkip all o s' := by
  obtain ⟨j, want, h1, d, h2, h3⟩ := h
  exact ⟨j, want, h1, d, h2, by rw [← H.t d]; exact h3⟩
theorem Fact.same {all : List Oper} {base i : Nat} {o : Oper} {e : Eff} {s s' : VSt} (H : Same s s') (h : Fact nt ven all base i o e s) : Fact nt ven all base i o e s' := by
  obtain ⟨h1, h2, h3⟩ := h
  refine ⟨h1, h2, ?_⟩
  rcases h3 with ⟨h3, h4, h5⟩ | ⟨h3, h4, h5, h6⟩
  · exact .inl ⟨h3.same H, h4.same H, by rw [← accOf_same H]; exact h5⟩
  · exact .inr ⟨h3, h4, h5, h6.same H⟩

/-! ### what an evaluation says of each operation -/
theorem same_retell {s : VSt} {d : Tmp} {v : TV} (h : lk s.t d = some v) : Same s ⟨(d, v) :: s.t, s.h, s.nx⟩ := by
  refine ⟨fun e => ?_, fun _ => rfl, rfl⟩
  rw [lk_cons']
  split
  · rename_i he; simp only at he; subst he; exact h
  · rfl

theorem vguard_inv {s : VSt} {all : List Oper} {j : Nat} {want : Bool} {X Y : VSt → Prop} (hk : vguard s (gtmp all j) want X Y) :
    ∃ s' d, Same s s' ∧ gtmp all j = some d ∧ ((lk s.t d = some (.a (.v .bool want)) ∧ X s') ∨ ((lk s.t d = some (.tup []) ∨ lk s.t d = some (.a (.v .bool (!want)))) ∧ Y s')) := by
  unfold vguard at hk
  split at hk
  case h_2 => exact hk.elim
  rename_i d hd
  unfold vguardB at hk
  split at hk
  · rename_i hl; exact ⟨s, d, .rfl, hd, .inr ⟨.inl hl, hk⟩⟩
  · rename_i bb hl
    refine ⟨⟨(d, .a (.v .bool bb)) :: s.t, s.h, s.nx⟩, d, same_retell hl, hd, ?_⟩
    rw [br_iff] at hk
    cases bb
    · have hk' := hk.2 rfl
      cases want
      · exact .inl ⟨hl, hk'⟩
      · exact .inr ⟨.inr hl, hk'⟩
    · have hk' := hk.1 rfl
      cases want
      · exact .inr ⟨.inr hl, hk'⟩
      · exact .inl ⟨hl, hk'⟩
  · exact hk.elim

theorem vreg_facts (H : VOk ven ren) {all : List Oper} {bef : Nat → Nat} {base : Nat} {KV : VSt → Prop} : ∀ (os : List Oper) (i : Nat) (acc : List AccE) (s : VSt), vreg ven nt all bef base os i acc KV s →
    ∃ es : List Eff, es.length = os.length ∧ (∃ sN, KV sN ∧ Same (foldE (fun _ => true) es i s) sN) ∧
      ∀ k o e, os[k]? = some o → es[k]? = some e → Fact nt ven all base (i + k) o e (foldE (fun x => Nat.blt x (i + k)) es i s) ∧ (∀ a ∈ acc, Ind (bef (i + k)) e.acc a) ∧ ∀ k' e', k' < k → es[k']? = some e' → Ind (bef (i + k)) e.acc e'.acc
  | [], i, acc, s, hk => ⟨[], rfl, ⟨s, hk, .rfl⟩, fun k o e ho => by simp at ho⟩
  | o :: os, i, acc, s, hk => by
    simp only [vreg] at hk
    obtain ⟨hd, hk⟩ := chk_iff.mp hk
    -- the step, and the rest
    have main : ∃ (s' : VSt) (e : Eff) (acc' : List AccE), Same s s' ∧ Fact nt ven all base i o e s ∧ (∀ a ∈ acc, a ∈ acc' ) ∧ (∀ a ∈ acc, Ind (bef i) e.acc a) ∧ (e.acc ∈ acc' ∨ ∃ m, e.acc = ⟨m, [], [], [], []⟩) ∧ vreg ven nt all bef base os (i + 1) acc' KV (s'.eff e) := by
      have run : ∀ s', Same s s' → GRun all o s → (vop ven (base + 8 * i) s'.h s'.t o fun v us => chk (indep (bef i) (accOf i s'.h s'.t o us) acc) (vreg ven nt all bef base os (i + 1) (accOf i s'.h s'.t o us :: acc) KV (s'.ap s'.nx o.dst v us))) →
          ∃ (s' : VSt) (e : Eff) (acc' : List AccE), Same s s' ∧ Fact nt ven all base i o e s ∧ (∀ a ∈ acc, a ∈ acc' ) ∧ (∀ a ∈ acc, Ind (bef i) e.acc a) ∧ (e.acc ∈ acc' ∨ ∃ m, e.acc = ⟨m, [], [], [], []⟩) ∧ vreg ven nt all bef base os (i + 1) acc' KV (s'.eff e) := by
        intro s' hs hg hk
        obtain ⟨v, us, h1, h2⟩ := vop_det H _ _ _ _ _ hk
        obtain ⟨h3, h4⟩ := chk_iff.mp h1
        refine ⟨s', ⟨o.dst, v, us, accOf i s'.h s'.t o us⟩, _, hs, ⟨hd, rfl, .inl ⟨hg, ?_, ?_⟩⟩, fun a ha => List.mem_cons_of_mem _ ha, indep_iff h3, .inl (List.mem_cons_self ..), h4⟩
        · exact OneR.same (s := s') hs.symm h2
        · exact (accOf_same hs _ _ _).symm
      split at hk
      · rename_i hg
        exact run s .rfl (.inl hg) hk
      · rename_i j want hg
        obtain ⟨s', d, hs, hd', hc⟩ := vguard_inv hk
        rcases hc with ⟨hl, hk⟩ | ⟨hl, hk⟩
        · exact run s' hs (.inr ⟨j, want, hg, d, hd', hl⟩) hk
        · exact ⟨s', ⟨o.dst, .tup [], [], ⟨i, [], [], [], []⟩⟩, acc, hs, ⟨hd, rfl, .inr ⟨rfl, rfl, rfl, j, want, hg, d, hd', hl⟩⟩, fun a ha => ha, fun a _ => .inr indB_nilL, .inr ⟨i, rfl⟩, hk⟩
    obtain ⟨s', e, acc', hs, hf, hacc, hind, hmem, hk'⟩ := main
    obtain ⟨es, hlen, ⟨sN, hN, hsN⟩, hfacts⟩ := vreg_facts H os (i + 1) acc' _ hk'
    refine ⟨e :: es, by simp [hlen], ⟨sN, hN, ?_⟩, ?_⟩
    · simp only [foldE, cond_true]
      exact (foldE_same (hs.eff e)).trans hsN
    · intro k o' e' ho he
      cases k with
      | zero =>
        simp only [List.getElem?_cons_zero, Option.some.injEq] at ho he
        subst ho he
        rw [Nat.add_zero, foldE_none fun m _ => by
          cases hb : Nat.blt (i + m) i with
          | false => rfl
          | true => have := Nat.le_of_ble_eq_true hb; omega]
        exact ⟨hf, hind, fun k' _ hk => absurd hk (Nat.not_lt_zero _)⟩
      | succ k =>
        obtain ⟨h1, h2, h3⟩ := hfacts k o' e' (by simpa using ho) (by simpa using he)
        rw [show i + 1 + k = i + (k + 1) by omega] at h1 h2 h3
        refine ⟨?_, fun a ha => h2 a (hacc a ha), fun k' e'' hk' he'' => ?_⟩
        · simp only [foldE]
          rw [show Nat.blt i (i + (k + 1)) = true from Nat.ble_eq_true_of_le (by omega)]
          exact h1.same (foldE_same (hs.eff e).symm)
        · cases k' with
          | zero =>
            simp only [List.getElem?_cons_zero, Option.some.injEq] at he''
            subst he''
            rcases hmem with hm | ⟨m, hm⟩
            · exact h2 _ hm
            · rw [hm]; exact .inr indB_nilR
          | succ k' => exact h3 k' e'' (by omega) (by simpa using he'')

/-! ### sets of operations that are done -/
theorem bef_closed {ops : Array Oper} {S : Nat → Bool} (hS : ∀ k o, ops[k]? = some o → S k = true → ∀ e ∈ o.after, Region.binds .any e = true → S e.on = true) {k j : Nat} (hk : S k = true) (hj : (befOf ops k).testBit j = true) : S j = true := by
  have key : ∀ (l : List Oper) (acc : Array Nat), (∀ m o, l[m]? = some o → ops[acc.size + m]? = some o) → (∀ k j, S k = true → (acc.getD k 0).testBit j = true → S j = true) →
      ∀ k j, S k = true → ((l.foldl (fun acc o => acc.push (o.after.foldl (fun s e => if Region.binds .any e then s ||| 2 ^ e.on ||| acc.getD e.on 0 else s) 0)) acc).getD k 0).testBit j = true → S j = true := by
    intro l
    induction l with
    | nil => intro acc _ h; exact h
    | cons o l ih =>
      intro acc hl h
      simp only [List.foldl_cons]
      refine ih _ (fun m o' hm => ?_) ?_
      · have := hl (m + 1) o' (by simpa using hm)
        rw [Array.size_push, Nat.add_assoc, Nat.add_comm 1 m]; exact this
      · intro k j hk hj
        have ho := hl 0 o rfl
        rw [Nat.add_zero] at ho
        by_cases hlt : k < acc.size
        · refine h k j hk ?_
          simpa [Array.getD, Array.getElem?_push, hlt, Nat.lt_succ_of_lt hlt, Array.getElem_push_lt hlt] using hj
        · by_cases heq : k = acc.size
          · subst heq
            have hj' : (o.after.foldl (fun s e => if Region.binds .any e then s ||| 2 ^ e.on ||| acc.getD e.on 0 else s) 0).testBit j = true := by
              simpa [Array.getD] using hj
            have hall := hS _ o ho hk
            have : ∀ (es : List Edge) (s : Nat), (∀ e ∈ es, Region.binds .any e = true → S e.on = true) → (s.testBit j = true → S j = true) →
                (es.foldl (fun s e => if Region.binds .any e then s ||| 2 ^ e.on ||| acc.getD e.on 0 else s) s).testBit j = true → S j = true := by
              intro es
              induction es with
              | nil => intro s _ h; exact h
              | cons e es ih2 =>
                intro s hes hs hj
                simp only [List.foldl_cons] at hj
                refine ih2 _ (fun e he => hes e (by simp [he])) ?_ hj
                split
                · rename_i hb
                  have hon := hes e (by simp) hb
                  intro hbit
                  simp only [Nat.testBit_or, Bool.or_eq_true] at hbit
                  rcases hbit with (hbit | hbit) | hbit
                  · exact hs hbit
                  · rw [Nat.testBit_two_pow] at hbit
                    have : e.on = j := by simpa using hbit
                    rw [← this]; exact hon
                  · exact h e.on j hon hbit
                · exact hs
            rw [← Array.foldl_toList] at hj'
            exact this _ 0 (fun e he => hall e (by simpa using he)) (by simp) hj'
          · exfalso
            have : k ≥ (acc.push (o.after.foldl (fun s e => if Region.binds .any e then s ||| 2 ^ e.on ||| acc.getD e.on 0 else s) 0)).size := by rw [Array.size_push]; omega
            rw [Array.getD_eq_getD_getElem?, Array.getElem?_eq_none this] at hj
            simp at hj
  refine key ops.toList #[] (fun m o hm => by simpa using hm) (by simp [Array.getD]) k j hk ?_
  unfold befOf Region.before at hj
  rw [← Array.foldl_toList] at hj
  exact hj

theorem memN_iff' {n : Nat} : ∀ {l : List Nat}, memN n l = true ↔ n ∈ l
  | [] => by simp [memN]
  | m :: l => by
    simp only [memN, List.mem_cons]
    cases hb : Nat.beq m n with
    | true => simp [Nat.eq_of_beq_eq_true hb]
    | false =>
      have : m ≠ n := fun he => by rw [he, Nat.beq_refl] at hb; cases hb
      simp only [cond_false]
      rw [memN_iff']
      exact ⟨.inr, fun h => h.elim (fun h => absurd h.symm this) id⟩
theorem disjN_iff : ∀ {l m : List Nat}, disjN l m = true → ∀ n ∈ l, n ∉ m
  | n :: l, m, h, k, hk => by
    simp only [disjN] at h
    cases hb : memN n m with
    | true => rw [hb] at h; simp at h
    | false =>
      rw [hb] at h
      rcases List.mem_cons.mp hk with rfl | hk
      · intro hm; rw [memN_iff'.mpr hm] at hb; cases hb
      · exact disjN_iff h k hk

theorem regOks_at {all : List Oper} {bef : Nat → Nat} : ∀ {os : List Oper} {i : Nat}, regOks all bef i os = true → ∀ k o, os[k]? = some o → afterB (i + k) o.after.toList = true ∧ regOk1 all bef (i + k) o 0 all = true
  | [], _, _, k, o, hk => by simp at hk
  | o :: os, i, h, k, o', hk => by
    simp only [regOks, Bool.and_eq_true] at h
    cases k with
    | zero => simp only [List.getElem?_cons_zero, Option.some.injEq] at hk; subst hk; exact h.1
    | succ k =>
      have := regOks_at h.2 k o' (by simpa using hk)
      rwa [show i + 1 + k = i + (k + 1) by omega] at this
theorem regOk1_at {all : List Oper} {bef : Nat → Nat} {i : Nat} {o : Oper} : ∀ {us : List Oper} {j : Nat}, regOk1 all bef i o j us = true → ∀ k u, us[k]? = some u → j + k < i → (bef i).testBit (j + k) = true ∨ (dstNe o.dst u.dst = true ∧ dstNot u.dst (usesO all o) = true ∧ dstNot o.dst (usesO all u) = true)
  | [], _, _, k, u, hk, _ => by simp at hk
  | u :: us, j, h, k, u', hk, hlt => by
    simp only [regOk1, Bool.and_eq_true] at h
    cases k with
    | zero =>
      simp only [List.getElem?_cons_zero, Option.some.injEq] at hk; subst hk
      have h1 := h.1
      rw [show Nat.blt j i = true from Nat.ble_eq_true_of_le hlt] at h1
      simp only [cond_true, Bool.or_eq_true, Bool.and_eq_true] at h1
      exact h1
    | succ k =>
      have := regOk1_at h.2 k u' (by simpa using hk) (by omega)
      rwa [show j + 1 + k = j + (k + 1) by omega] at this
theorem afterB_iff {i : Nat} : ∀ {es : List Edge}, afterB i es = true → ∀ e ∈ es, e.on < i
  | e :: es, h, e', he => by
    simp only [afterB, Bool.and_eq_true] at h
    rcases List.mem_cons.mp he with rfl | he
    · exact Nat.le_of_ble_eq_true h.1
    · exact afterB_iff h.2 e' he
theorem dstNe_iff {d e : Option Tmp} (h : dstNe d e = true) : ∀ x, d = some x → e ≠ some x := by
  rintro x rfl hx
  subst hx
  simp [dstNe] at h
theorem dstNot_iff {d : Option Tmp} {l : List Nat} (h : dstNot d l = true) : ∀ x ∈ l, d ≠ some x := by
  rintro x hx rfl
  simp only [dstNot, Bool.not_eq_true'] at h
  rw [memN_iff'.mpr hx] at h; cases h
theorem tmpsOf_mem {d : Tmp} : ∀ {xs : List Operand}, Operand.tmp d ∈ xs → d ∈ tmpsOf xs
  | x :: xs, h => by
    rcases List.mem_cons.mp h with rfl | h
    · simp [tmpsOf]
    · have := tmpsOf_mem h
      cases x <;> simp [tmpsOf, this]
theorem klN_not {h : VH} {n : Nat} : ∀ {us : Ups}, n ∉ klN h us → ∀ u ∈ us, u.1 = n → live u.2 = true ∧ live (hget h n) = true
  | u :: us, hn, w, hw, he => by
    simp only [klN] at hn
    cases hb : live u.2 && live (hget h u.1) with
    | true =>
      rw [hb] at hn
      rcases List.mem_cons.mp hw with rfl | hw
      · rw [Bool.and_eq_true] at hb; rw [← he]; exact hb
      · exact klN_not hn w hw he
    | false =>
      rw [hb] at hn
      simp only [cond_false, List.mem_cons, not_or] at hn
      rcases List.mem_cons.mp hw with rfl | hw
      · exact absurd he.symm hn.1
      · exact klN_not hn.2 w hw he
theorem upN_mem {n : Nat} : ∀ {us : Ups}, n ∈ upN us ↔ ∃ u ∈ us, u.1 = n
  | [] => by simp [upN]
  | u :: us => by
    simp only [upN, List.mem_cons, upN_mem (us := us), exists_eq_or_imp]
    exact ⟨fun h => h.elim (fun h => .inl h.symm) .inr, fun h => h.elim (fun h => .inl h.symm) .inr⟩

theorem Fact.accI {all : List Oper} {base i : Nat} {o : Oper} {e : Eff} {s : VSt} (h : Fact nt ven all base i o e s) : e.acc.i = i ∧ e.acc.wr = upN e.us := by
  obtain ⟨_, _, ⟨_, _, h⟩ | ⟨_, h0, h, _⟩⟩ := h
  · rw [h]; exact ⟨rfl, rfl⟩
  · rw [h, h0]; exact ⟨rfl, rfl⟩

structure Apart (all : List Oper) (oi ok : Oper) (ei ek : Eff) : Prop where
  use : ∀ d ∈ usesO all oi, ok.dst ≠ some d
  dst : ∀ d, oi.dst = some d → ok.dst ≠ some d
  fp : ∀ n ∈ ei.acc.fp, n ∉ ek.acc.wr
  wr : ∀ n ∈ ei.acc.wr, n ∉ ek.acc.wr
  lv : ∀ n ∈ ei.acc.lv, n ∉ ek.acc.kl

theorem indB_iff {x a : AccE} (h : IndB x a = true) : (∀ n ∈ x.wr, n ∉ a.fp) ∧ (∀ n ∈ x.wr, n ∉ a.wr) ∧ (∀ n ∈ a.wr, n ∉ x.fp) ∧ (∀ n ∈ x.kl, n ∉ a.lv) ∧ (∀ n ∈ a.kl, n ∉ x.lv) := by
  simp only [IndB, Bool.and_eq_true] at h
  exact ⟨disjN_iff h.1.1.1.1, disjN_iff h.1.1.1.2, disjN_iff h.1.1.2, disjN_iff h.1.2, disjN_iff h.2⟩

theorem cntL_out {S : Nat → Bool} {i : Nat} : ∀ {l : List Nat}, i ∉ l → l.countP (addS S i) = l.countP S
  | [], _ => rfl
  | k :: l, h => by
    simp only [List.mem_cons, not_or] at h
    rw [List.countP_cons, List.countP_cons, cntL_out h.2, addS_ne (fun he => h.1 he.symm)]
theorem cntL_in {S : Nat → Bool} {i : Nat} (hS : S i = false) : ∀ {l : List Nat}, l.Nodup → i ∈ l → l.countP (addS S i) = l.countP S + 1
  | k :: l, hn, h => by
    rw [List.countP_cons, List.countP_cons]
    rw [List.nodup_cons] at hn
    rcases List.mem_cons.mp h with rfl | h
    · rw [cntL_out hn.1, addS_self, hS]; simp
    · have : k ≠ i := fun he => hn.1 (he ▸ h)
      rw [cntL_in hS hn.2 h, addS_ne this]; omega

section
variable (HP : TIok ren.P ren.ti) (H : VOk ven ren) (hW : Ext ren.W0 w0) (hio : ∀ b ∈ ioB io, ren.W0.heap.size ≤ b) {ops : Array Oper} {base : Nat} {s0 : VSt} {es : List Eff}
  (hlen : es.length = ops.size)
  (hf : ∀ k o e, ops[k]? = some o → es[k]? = some e → Fact nt ven ops.toList base k o e (foldE (fun x => Nat.blt x k) es 0 s0) ∧ ∀ k' e', k' < k → es[k']? = some e' → Ind (befOf ops k) e.acc e'.acc)
  (hreg : regOk ops.toList (befOf ops) = true)

include hf hreg in
theorem apart_of {i k : Nat} {oi ok : Oper} {ei ek : Eff} (hoi : ops[i]? = some oi) (hei : es[i]? = some ei) (hok : ops[k]? = some ok) (hek : es[k]? = some ek)
    (h : (k < i ∧ (befOf ops i).testBit k = false) ∨ (i < k ∧ (befOf ops k).testBit i = false)) : Apart ops.toList oi ok ei ek := by
  have hl : ∀ {k : Nat} {o : Oper}, ops[k]? = some o → ops.toList[k]? = some o := fun {k o} h => by rw [Array.getElem?_toList]; exact h
  rcases h with ⟨hlt, hb⟩ | ⟨hlt, hb⟩
  · have h1 := (regOks_at hreg i oi (hl hoi)).2
    rw [Nat.zero_add] at h1
    have h2 := regOk1_at h1 k ok (hl hok) (by omega)
    rw [Nat.zero_add, hb] at h2
    obtain ⟨h3, h4, h5⟩ := h2.resolve_left (by simp)
    have h6 := (hf i oi ei hoi hei).2 k ek hlt hek
    have h7 := (hf k ok ek hok hek).1.accI.1
    rcases h6 with h6 | h6
    · rw [h7, hb] at h6; cases h6
    · obtain ⟨a1, a2, a3, a4, a5⟩ := indB_iff h6
      exact ⟨dstNot_iff h4, dstNe_iff h3, fun n hn hm => a3 n hm hn, a2, fun n hn hm => a5 n hm hn⟩
  · have h1 := (regOks_at hreg k ok (hl hok)).2
    rw [Nat.zero_add] at h1
    have h2 := regOk1_at h1 i oi (hl hoi) (by omega)
    rw [Nat.zero_add, hb] at h2
    obtain ⟨h3, h4, h5⟩ := h2.resolve_left (by simp)
    have h6 := (hf k ok ek hok hek).2 i ei hlt hei
    have h7 := (hf i oi ei hoi hei).1.accI.1
    rcases h6 with h6 | h6
    · rw [h7, hb] at h6; cases h6
    · obtain ⟨a1, a2, a3, a4, a5⟩ := indB_iff h6
      exact ⟨dstNot_iff h5, fun d hd hk => dstNe_iff h3 d hk hd, fun n hn hm => a1 n hm hn, fun n hn hm => a2 n hm hn, fun n hn hm => a4 n hm hn⟩

/-- an operation that may be next does what it does in the order of the text -/
theorem step_facts {S : Nat → Bool} (hS : ∀ k o, ops[k]? = some o → S k = true → ∀ e ∈ o.after, Region.binds .any e = true → S e.on = true) {i : Nat} {o : Oper} {e : Eff} (ho : ops[i]? = some o) (he : es[i]? = some e) (hi : S i = false)
    (haft : ∀ e ∈ o.after, Region.binds .any e = true → S e.on = true) (hlen : es.length = ops.size)
    (hf : ∀ k o e, ops[k]? = some o → es[k]? = some e → Fact nt ven ops.toList base k o e (foldE (fun x => Nat.blt x k) es 0 s0) ∧ ∀ k' e', k' < k → es[k']? = some e' → Ind (befOf ops k) e.acc e'.acc)
    (hreg : regOk ops.toList (befOf ops) = true) :
    dstOk nt o.dst = true ∧ e.dst = o.dst ∧ ((GRun ops.toList o (foldE S es 0 s0) ∧ OneR ven (base + 8 * i) (foldE S es 0 s0) o e) ∨ (e.v = .tup [] ∧ e.us = [] ∧ GSkip ops.toList o (foldE S es 0 s0))) ∧
      Same ((foldE S es 0 s0).eff e) (foldE (addS S i) es 0 s0) := by
  have hS' : ∀ k o, ops[k]? = some o → addS S i k = true → ∀ e ∈ o.after, Region.binds .any e = true → addS S i e.on = true := by
    intro k o' ho' hk e' he' hb
    have : S e'.on = true := by
      by_cases hki : k = i
      · subst hki; rw [ho] at ho'; cases ho'; exact haft e' he' hb
      · rw [addS_ne hki] at hk; exact hS k o' ho' hk e' he' hb
    by_cases h : e'.on = i
    · rw [h]; exact addS_self
    · rw [addS_ne h]; exact this
  have hop : ∀ {k : Nat} {ek : Eff}, es[k]? = some ek → ∃ ok, ops[k]? = some ok := by
    intro k ek hek
    have : k < es.length := (List.getElem?_eq_some_iff.mp hek).1
    exact ⟨ops[k]'(by omega), by simp⟩
  have hap : ∀ {k : Nat} {ok : Oper} {ek : Eff}, ops[k]? = some ok → es[k]? = some ek → k ≠ i → ((S k = true ∧ i < k) ∨ (S k = false ∧ k < i)) → Apart ops.toList o ok e ek := by
    intro k ok ek hok hek hki hd
    refine apart_of hf hreg ho he hok hek ?_
    rcases hd with ⟨h1, h2⟩ | ⟨h1, h2⟩
    · refine .inr ⟨h2, ?_⟩
      cases hb : (befOf ops k).testBit i with
      | false => rfl
      | true => have := bef_closed hS h1 hb; rw [hi] at this; cases this
    · refine .inl ⟨h2, ?_⟩
      cases hb : (befOf ops i).testBit k with
      | false => rfl
      | true =>
        have := bef_closed hS' addS_self hb
        rw [addS_ne hki, h1] at this; cases this
  have hdiff : ∀ {k : Nat} {ok : Oper} {ek : Eff}, ops[k]? = some ok → es[k]? = some ek → S k ≠ Nat.blt k i → Apart ops.toList o ok e ek := by
    intro k ok ek hok hek hne
    have hki : k ≠ i := by
      rintro rfl
      rw [hi] at hne
      cases hb : Nat.blt k k with
      | false => rw [hb] at hne; exact hne rfl
      | true => have := Nat.le_of_ble_eq_true hb; omega
    refine hap hok hek hki ?_
    cases hb : Nat.blt k i with
    | true =>
      refine .inr ⟨?_, Nat.le_of_ble_eq_true hb⟩
      cases h : S k with
      | false => rfl
      | true => rw [h, hb] at hne; exact absurd rfl hne
    | false =>
      refine .inl ⟨?_, ?_⟩
      · cases h : S k with
        | true => rfl
        | false => rw [h, hb] at hne; exact absurd rfl hne
      · rcases Nat.lt_trichotomy k i with h | h | h
        · rw [show Nat.blt k i = true from Nat.ble_eq_true_of_le h] at hb; cases hb
        · exact absurd h hki
        · exact h
  obtain ⟨hfi, _⟩ := hf i o e ho he
  obtain ⟨hd, hdst, hc⟩ := hfi
  have hT : ∀ d ∈ usesO ops.toList o, lk (foldE (fun x => Nat.blt x i) es 0 s0).t d = lk (foldE S es 0 s0).t d := by
    intro d hdu
    refine foldE_t2 rfl fun m em hem hne => ?_
    rw [Nat.zero_add] at hne
    obtain ⟨om, hom⟩ := hop hem
    rw [(hf m om em hom hem).1.2.1]
    exact (hdiff hom hem fun h => hne h.symm).use d hdu
  have hguard : ∀ {j : Nat} {want : Bool} {d : Tmp}, o.guard = some (j, want) → gtmp ops.toList j = some d → d ∈ usesO ops.toList o := by
    intro j want d hg hd
    simp only [usesO, hg, hd]
    simp
  refine ⟨hd, hdst, ?_, ?_⟩
  · rcases hc with ⟨hg, hone, hacc⟩ | ⟨hv, hus, hacc, hg⟩
    · refine .inl ⟨?_, ?_⟩
      · rcases hg with hg | ⟨j, want, hg, d, hd, hl⟩
        · exact .inl hg
        · exact .inr ⟨j, want, hg, d, hd, by rw [← hT d (hguard hg hd)]; exact hl⟩
      · intro K' hk
        have h1 := hone K' hk
        have h2 : vop ven (base + 8 * i) (foldE S es 0 s0).h (foldE (fun x => Nat.blt x i) es 0 s0).t o K' := by
          refine vop_agH ?_ ?_ h1
          · intro n hn
            refine foldE_h2 rfl fun m em hem hne => ?_
            rw [Nat.zero_add] at hne
            obtain ⟨om, hom⟩ := hop hem
            rw [← (hf m om em hom hem).1.accI.2]
            refine (hdiff hom hem fun h => hne h.symm).fp n ?_
            rw [hacc]; exact hn
          · intro n hn hl
            have hnl : n ∈ e.acc.lv := by rw [hacc]; exact hn
            refine foldE_l2 (i := i) (S := S) (s := s0) (s' := s0) id ?_ ?_ hl
            · intro m em hem hb hSm hu
              rw [Nat.zero_add] at hb hSm ⊢
              obtain ⟨om, hom⟩ := hop hem
              have ha := hdiff hom hem (by rw [hb, hSm]; simp)
              have hk := ha.lv n hnl
              obtain ⟨_, _, ⟨_, _, hac⟩ | ⟨_, hus, _, _⟩⟩ := (hf m om em hom hem).1
              · rw [hac] at hk
                obtain ⟨u, hu1, hu2⟩ := upN_mem.mp hu
                exact (klN_not hk u hu1 hu2).2
              · rw [hus] at hu; simp [upN] at hu
            · intro m em hem hb hSm hu u hu1 hu2
              rw [Nat.zero_add] at hb hSm
              obtain ⟨om, hom⟩ := hop hem
              have ha := hdiff hom hem (by rw [hb, hSm]; simp)
              have hk := ha.lv n hnl
              obtain ⟨_, _, ⟨_, _, hac⟩ | ⟨_, hus, _, _⟩⟩ := (hf m om em hom hem).1
              · rw [hac] at hk
                exact (klN_not hk u hu1 hu2).1
              · rw [hus] at hu; simp [upN] at hu
        rw [vop_agT (t' := (foldE S es 0 s0).t)] at h2
        · exact h2
        · intro x hx
          cases x with
          | tmp d =>
            refine hT d ?_
            simp only [usesO, List.mem_append]
            exact .inr (tmpsOf_mem hx)
          | _ => trivial
    · refine .inr ⟨hv, hus, ?_⟩
      obtain ⟨j, want, hg, d, hd, hl⟩ := hg
      exact ⟨j, want, hg, d, hd, by rw [← hT d (hguard hg hd)]; exact hl⟩
  · have h := foldE_add (S := S) (e := e) (es := es) (k := 0) (m := i) (s := s0) he (by rw [Nat.zero_add]; exact hi) ?_
    · rwa [Nat.zero_add] at h
    · intro j ej hej hlt hSj
      rw [Nat.zero_add] at hSj
      obtain ⟨oj, hoj⟩ := hop hej
      have ha := hap hoj hej (by omega) (.inl ⟨hSj, hlt⟩)
      rw [(hf j oj ej hoj hej).1.2.1, hdst, ← (hf j oj ej hoj hej).1.accI.2, ← (hf i o e ho he).1.accI.2]
      exact ⟨ha.dst, ha.wr⟩

def setS (listed : Array Bool) : Nat → Bool := fun k => listed.getD k false
theorem setS_set {listed : Array Bool} {i : Nat} (h : i < listed.size) : setS (listed.setIfInBounds i true) = addS (setS listed) i := by
  funext k
  by_cases hk : k = i
  · subst hk
    rw [addS_self]
    simp [setS, Array.getD, h]
  · rw [addS_ne hk]
    simp only [setS, Array.getD, Array.size_setIfInBounds]
    by_cases hlt : k < listed.size
    · simp [hlt, Array.getElem_setIfInBounds, Ne.symm hk]
    · simp [hlt]

def FreeI (base : Nat) (S : Nat → Bool) (N : Nat) (s : VSt) : Prop := ∀ n, base ≤ n → hget s.h n ≠ .free → ∃ j, j < N ∧ S j = true ∧ base + 8 * j ≤ n ∧ n < base + 8 * j + 8

theorem any_main (HP : TIok ren.P ren.ti) (H : VOk ven ren) (hW : Ext ren.W0 w0) (hio : ∀ b ∈ ioB io, ren.W0.heap.size ≤ b) {KV : VSt → Prop}
    (hlen : es.length = ops.size)
    (hf : ∀ k o e, ops[k]? = some o → es[k]? = some e → Fact nt ven ops.toList base k o e (foldE (fun x => Nat.blt x k) es 0 s0) ∧ ∀ k' e', k' < k → es[k']? = some e' → Ind (befOf ops k) e.acc e'.acc)
    (hreg : regOk ops.toList (befOf ops) = true) (hN : ∃ sN, KV sN ∧ Same (foldE (fun _ => true) es 0 s0) sN) (h4 : 4 ≤ base) (hnx : s0.nx = base + 8 * ops.size) :
    ∀ (fuel : Nat) (listed : Array Bool) (f : Nat → Nat) (st : St) (a : Act) (w : World) (β : Beta), listed.size = ops.size → (List.range ops.size).countP (setS listed) + fuel = ops.size →
      (∀ k o, ops[k]? = some o → setS listed k = true → ∀ e ∈ o.after, Region.binds .any e = true → setS listed e.on = true) → FreeI base (setS listed) ops.size (foldE (setS listed) es 0 s0) →
      Rel nt f (foldE (setS listed) es 0 s0) st → SimB G w0 io st a w β →
      wpAny ren.P .any ops (fun e a w => e = .normal ∧ Nxv nt G w0 io KV a w) fuel listed a w := by
  -- all are done
  have done : ∀ (listed : Array Bool) (f : Nat → Nat) (st : St) (a : Act) (w : World) (β : Beta), (∀ k, k < ops.size → setS listed k = true) → FreeI base (setS listed) ops.size (foldE (setS listed) es 0 s0) →
      Rel nt f (foldE (setS listed) es 0 s0) st → SimB G w0 io st a w β → Nxv nt G w0 io KV a w := by
    intro listed f st a w β hall hfr hR hs
    obtain ⟨sN, hK, hsame⟩ := hN
    have he : foldE (setS listed) es 0 s0 = foldE (fun _ => true) es 0 s0 := foldE_congr fun m hm => by rw [Nat.zero_add]; exact hall m (by omega)
    rw [he] at hfr hR
    refine ⟨sN, f, st, β, hK, hR.same hsame, ⟨?_, fun n hn => ?_⟩, hs⟩
    · rw [← hsame.nx, foldE_nx, hnx]; omega
    · rw [← hsame.nx, foldE_nx, hnx] at hn
      rw [← hsame.h n]
      cases hg : hget (foldE (fun _ => true) es 0 s0).h n with
      | free => rfl
      | _ =>
        exfalso
        obtain ⟨j, h1, _, h2, h3⟩ := hfr n (by omega) (by rw [hg]; simp)
        omega
  intro fuel
  induction fuel with
  | zero =>
    intro listed f st a w β hsz hc hcl hfr hR hs
    have hall : ∀ k, k < ops.size → setS listed k = true := by
      intro k hk
      have h1 : (List.range ops.size).countP (setS listed) = (List.range ops.size).length := by rw [List.length_range]; exact hc
      exact List.countP_eq_length.mp h1 k (List.mem_range.mpr hk)
    refine ⟨?_, rfl, done listed f st a w β hall hfr hR hs⟩
    rw [List.eq_nil_iff_forall_not_mem]
    intro j hj
    obtain ⟨h1, o, ho, _⟩ := mem_ready.mp hj
    have hlt : j < ops.size := (Array.getElem?_eq_some_iff.1 ho).1
    have := hall j hlt
    have hj' : j < listed.size := by omega
    simp [setS, Array.getD, hj'] at this h1
    rw [this] at h1; cases h1
  | succ fuel ih =>
    intro listed f st a w β hsz hc hcl hfr hR hs
    refine ⟨fun hnil => ?_, fun i hi => ?_⟩
    · -- the least that is not done would be ready
      refine ⟨rfl, done listed f st a w β ?_ hfr hR hs⟩
      intro k
      induction k using Nat.strongRecOn with
      | ind k ihk =>
        intro hk
        cases hb : setS listed k with
        | true => rfl
        | false =>
          exfalso
          have ho : ops[k]? = some ops[k] := by simp
          have hr : k ∈ Region.ready .any ops listed := by
            rw [mem_ready]
            refine ⟨?_, ops[k], ho, fun e he hbd => ?_⟩
            · have hk' : k < listed.size := by omega
              simp [setS, Array.getD, hk'] at hb ⊢
              exact hb
            · have h1 := (regOks_at hreg k ops[k] (by simp)).1
              rw [Nat.zero_add] at h1
              have h2 := afterB_iff h1 e (by simpa using he)
              exact ihk e.on h2 (by omega)
          rw [hnil] at hr; cases hr
    · obtain ⟨h1, o, ho, haft⟩ := mem_ready.mp hi
      have hlt : i < ops.size := (Array.getElem?_eq_some_iff.1 ho).1
      have hi' : i < listed.size := by omega
      have hSi : setS listed i = false := by
        simp [setS, Array.getD, hi'] at h1 ⊢
        exact h1
      have he : es[i]? = some (es[i]'(by omega)) := by simp
      generalize es[i]'(by omega) = e at he
      obtain ⟨hd, hdst, hcase, hsame⟩ := step_facts (s0 := s0) (S := setS listed) hcl ho he hSi (fun e he hb => haft e he hb) hlen hf hreg
      have hnext : ∀ {f' : Nat → Nat} {st' : St} {a' : Act} {w' : World} {β' : Beta}, FreeI base (addS (setS listed) i) ops.size ((foldE (setS listed) es 0 s0).eff e) → Rel nt f' ((foldE (setS listed) es 0 s0).eff e) st' → SimB G w0 io st' a' w' β' → wpAny ren.P .any ops (fun e a w => e = .normal ∧ Nxv nt G w0 io KV a w) fuel (listed.setIfInBounds i true) a' w' := by
        intro f' st' a' w' β' hfr' hR' hs'
        refine ih _ f' st' a' w' β' (by rw [Array.size_setIfInBounds]; exact hsz) ?_ ?_ ?_ ?_ hs'
        · rw [setS_set hi', cntL_in hSi List.nodup_range (List.mem_range.mpr hlt)]; omega
        · rw [setS_set hi']
          intro k o' ho' hk e' he' hb
          have : setS listed e'.on = true := by
            by_cases hki : k = i
            · subst hki; rw [ho] at ho'; cases ho'; exact haft e' he' hb
            · rw [addS_ne hki] at hk; exact hcl k o' ho' hk e' he' hb
          by_cases h : e'.on = i
          · rw [h]; exact addS_self
          · rw [addS_ne h]; exact this
        · rw [setS_set hi']
          intro n hn hne
          rw [← hsame.h n] at hne
          exact hfr' n hn hne
        · rw [setS_set hi']; exact hR'.same hsame
      have hfr0 : FreeI base (addS (setS listed) i) ops.size (foldE (setS listed) es 0 s0) := by
        intro n hn hne
        obtain ⟨j, h1, h2, h3⟩ := hfr n hn hne
        refine ⟨j, h1, ?_, h3⟩
        by_cases hj : j = i
        · rw [hj]; exact addS_self
        · rw [addS_ne hj]; exact h2
      unfold wpOp
      rw [ho]
      simp only
      rcases hcase with ⟨hg, hone⟩ | ⟨hv, hus, hg⟩
      · -- it runs
        have hw : Region.wanted o (yielded ops a.tmps) = true := by
          rcases hg with hg | ⟨j, want, hg, d, hd', hl⟩
          · simp [Region.wanted, hg]
          · obtain ⟨e', he', hre⟩ := hR.t d _ hl
            obtain ⟨_, rfl⟩ := hre
            obtain ⟨v, hv, hr⟩ := EVRs.get' hs.tmps he'
            have hvb : v = .bool want := evr_im hr
            subst hvb
            rw [gtmp_eq] at hd'
            have hv' : a.tmps[d]? = some (.bool want) := by simpa using hv
            simp [Region.wanted, hg, yielded, hd', hv']
        rw [if_pos hw]
        refine .inl ?_
        obtain ⟨v, us, ⟨rfl, rfl⟩, _, hup, hOp⟩ := vop_sound (K := fun v us => v = e.v ∧ us = e.us) (b := base + 8 * i) H hR (fun n hn1 hn2 => by
          cases hgt : hget (foldE (setS listed) es 0 s0).h n with
          | free => rfl
          | _ =>
            exfalso
            obtain ⟨j, _, hj, h2, h3⟩ := hfr n (by omega) (by rw [hgt]; simp)
            have : j = i := by omega
            rw [this, hSi] at hj; cases hj) (by omega) (hone _ ⟨rfl, rfl⟩)
        have hE := hOp (fun st' => ∃ f', Rel nt f' ((foldE (setS listed) es 0 s0).eff e) st') (fun st' f' e' h1 h2 => ⟨f', by
          have := Rel.ap (nx := (foldE (setS listed) es 0 s0).nx) h1 hd h2
          rw [← hdst] at this ⊢
          exact this⟩)
        refine Oper.wp_mono ?_ (op_sound HP hs hW hio hE)
        rintro a' w' ⟨st', β', ⟨f', hR'⟩, hs'⟩
        refine hnext ?_ hR' hs'
        intro n hn hne
        rcases taken_hup hne with h1 | ⟨u, hu, hun⟩
        · exact hfr0 n hn h1
        · rcases hup u hu with h1 | h1
          · rw [hun] at h1; exact hfr0 n hn h1
          · rw [hun] at h1; exact ⟨i, hlt, addS_self, h1⟩
      · -- it is left out
        have hw : Region.wanted o (yielded ops a.tmps) = false := by
          obtain ⟨j, want, hg, d, hd', hl⟩ := hg
          rw [gtmp_eq] at hd'
          rcases hl with hl | hl
          · obtain ⟨e', he', es', rfl, hes⟩ := hR.t d _ hl
            obtain ⟨v, hv, hr⟩ := EVRs.get' hs.tmps he'
            simp only [EVR] at hr
            obtain ⟨us, rfl, hus⟩ := hr
            have hv' : a.tmps[d]? = some (.tuple us.toArray) := by simpa using hv
            simp [Region.wanted, hg, yielded, hd', hv']
          · obtain ⟨e', he', hre⟩ := hR.t d _ hl
            obtain ⟨_, rfl⟩ := hre
            obtain ⟨v, hv, hr⟩ := EVRs.get' hs.tmps he'
            have hvb : v = .bool (!want) := evr_im hr
            subst hvb
            have hv' : a.tmps[d]? = some (.bool (!want)) := by simpa using hv
            cases want <;> simp [Region.wanted, hg, yielded, hd', hv']
        rw [if_neg (by rw [hw]; simp)]
        obtain ⟨h3, h5⟩ := skip_step (o := o) hs hR hd
        have he1 : (foldE (setS listed) es 0 s0).eff e = (foldE (setS listed) es 0 s0).ap (foldE (setS listed) es 0 s0).nx o.dst (.tup []) [] := by
          simp only [VSt.eff, hv, hus, hdst]
        refine hnext ?_ (by rw [he1]; exact h3) h5
        rw [he1]
        exact hfr0
end

theorem vreg_sound (HP : TIok ren.P ren.ti) (H : VOk ven ren) (hW : Ext ren.W0 w0) (hio : ∀ b ∈ ioB io, ren.W0.heap.size ≤ b) {ops : Array Oper} {KV : VSt → Prop} {f : Nat → Nat} {vs : VSt} {st : St} {a : Act} {w : World} {β : Beta}
    (hs : SimB G w0 io st a w β) (h : Rel nt f vs st) (ht : Top vs) (hok : regOk ops.toList (befOf ops) = true)
    (hk : vreg ven nt ops.toList (befOf ops) vs.nx ops.toList 0 [] KV ⟨vs.t, vs.h, vs.nx + 8 * ops.size⟩) :
    wpAny ren.P .any ops (fun e a w => e = .normal ∧ Nxv nt G w0 io KV a w) ops.size (Array.replicate ops.size false) a w := by
  obtain ⟨es, hlen, hN, hfacts⟩ := vreg_facts H _ _ _ _ hk
  have hS : setS (Array.replicate ops.size false) = fun _ => false := by
    funext k
    simp only [setS, Array.getD]
    split <;> simp
  have h0 : foldE (setS (Array.replicate ops.size false)) es 0 ⟨vs.t, vs.h, vs.nx + 8 * ops.size⟩ = ⟨vs.t, vs.h, vs.nx + 8 * ops.size⟩ := by
    rw [hS]; exact foldE_none (S := fun _ => false) fun _ _ => rfl
  refine any_main HP H hW hio (base := vs.nx) (s0 := ⟨vs.t, vs.h, vs.nx + 8 * ops.size⟩) (es := es) (by simpa using hlen) ?_ hok hN ht.four rfl _ _ f st a w β (by simp) ?_ ?_ ?_ ?_ hs
  · intro k o e ho he
    obtain ⟨h1, _, h3⟩ := hfacts k o e (by simpa using ho) he
    rw [Nat.zero_add] at h1 h3
    exact ⟨h1, h3⟩
  · rw [hS]; simp
  · intro k o _ hk
    rw [hS] at hk; cases hk
  · rw [h0]
    intro n hn hne
    exact absurd (ht.free n hn) hne
  · rw [h0]; exact h.any_nx
end Go.RX

/- VX: effects, and states that tell the same. -/
import Derived.Test.YtpcmbchibhcdiaaDoorVxL
namespace Go.RX
open Go

structure Same (s s' : VSt) : Prop where
  t : ∀ d, lk s.t d = lk s'.t d
  h : ∀ n, hget s.h n = hget s'.h n
  nx : s.nx = s'.nx
theorem Same.rfl {s : VSt} : Same s s := ⟨fun _ => Eq.refl _, fun _ => Eq.refl _, Eq.refl _⟩
theorem Same.symm {s s' : VSt} (H : Same s s') : Same s' s := ⟨fun d => (H.t d).symm, fun n => (H.h n).symm, H.nx.symm⟩
theorem Same.trans {s s' s'' : VSt} (H : Same s s') (H' : Same s' s'') : Same s s'' := ⟨fun d => (H.t d).trans (H'.t d), fun n => (H.h n).trans (H'.h n), H.nx.trans H'.nx⟩

theorem relA_same {h h' : VH} (H : ∀ n, hget h n = hget h' n) {f : Nat → Nat} {a : TA} {e : EV} (hr : relA h f a e) : relA h' f a e := by
  cases a with
  | own n sg => simp only [relA] at hr ⊢; rw [← H n]; exact hr
  | ptr n r k => simp only [relA] at hr ⊢; rw [← H n]; exact hr
  | _ => exact hr
theorem relT_same {h h' : VH} (H : ∀ n, hget h n = hget h' n) {f : Nat → Nat} {a : TA} {e : EV} (hr : relT h f a e) : relT h' f a e := by
  intro hf
  refine relA_same H (hr ?_)
  cases a with
  | own n sg => simp only [frozen] at hf ⊢; rw [H n]; exact hf
  | _ => rfl
theorem relV_same {h h' : VH} (H : ∀ n, hget h n = hget h' n) {f : Nat → Nat} {v : TV} {e : EV} (hr : relV h f v e) : relV h' f v e := by
  cases v with
  | a x => exact relA_same H hr
  | tup xs =>
    obtain ⟨es, h1, h2⟩ := hr
    exact ⟨es, h1, h2.mono fun _ _ => relT_same H⟩
theorem relS_same {h h' : VH} (H : ∀ n, hget h n = hget h' n) {f : Nat → Nat} {st : St} {n : Nat} {s : Slot} (hr : relS h f st n s) : relS h' f st n s := by
  cases s with
  | box cells =>
    obtain ⟨h1, es, h2, h3⟩ := hr
    exact ⟨h1, es, h2, h3.mono fun _ _ => relA_same H⟩
  | _ => exact hr
theorem Rel.same {nt : Nat} {f : Nat → Nat} {s s' : VSt} {st : St} (R : Rel nt f s st) (H : Same s s') : Rel nt f s' st where
  t := fun i v hv => by
    obtain ⟨e, h1, h2⟩ := R.t i v (by rw [H.t i]; exact hv)
    exact ⟨e, h1, relV_same H.h h2⟩
  nt := R.nt
  h := fun n => by rw [← H.h n]; exact relS_same H.h (R.h n)
  inj := fun n m h1 h2 he => R.inj n m (by rw [H.h n]; exact h1) (by rw [H.h m]; exact h2) he
  io := R.io
  nx := R.nx

/-! ### folds -/
structure Eff where
  dst : Option Tmp
  v : TV
  us : Ups
  acc : AccE
def VSt.eff (s : VSt) (e : Eff) : VSt := s.ap s.nx e.dst e.v e.us
def foldE (S : Nat → Bool) : List Eff → Nat → VSt → VSt
  | [], _, s => s
  | e :: es, k, s => foldE S es (k + 1) (cond (S k) (s.eff e) s)

theorem lk_cons' {α : Type} (p : Nat × α) (l : List (Nat × α)) (n : Nat) : lk (p :: l) n = if p.1 = n then some p.2 else lk l n := by
  obtain ⟨a, b⟩ := p
  rw [lk_cons]
theorem eff_lk {s : VSt} {e : Eff} {d : Tmp} : lk (s.eff e).t d = if e.dst = some d then some e.v else lk s.t d := by
  unfold VSt.eff VSt.ap
  cases he : e.dst with
  | none => simp
  | some d' =>
    simp only [lk_cons']
    by_cases hd : d' = d <;> simp [hd]
theorem eff_h {s : VSt} {e : Eff} : (s.eff e).h = hup s.h e.us := rfl
theorem eff_nx {s : VSt} {e : Eff} : (s.eff e).nx = s.nx := rfl
theorem hup_in : ∀ {us : Ups} {h h' : VH} {n : Nat}, n ∈ upN us → hget (hup h us) n = hget (hup h' us) n
  | u :: us, h, h', n, hn => by
    simp only [hup]
    by_cases hm : n ∈ upN us
    · exact hup_in hm
    · simp only [upN, List.mem_cons] at hn
      have hu : u.1 = n := hn.elim (fun h1 => h1.symm) (fun h1 => absurd h1 hm)
      have key : ∀ {us : Ups} {h h' : VH}, hget h n = hget h' n → hget (hup h us) n = hget (hup h' us) n := by
        intro us
        induction us with
        | nil => intro h h' hh; exact hh
        | cons w us ih => intro h h' hh; obtain ⟨m, x⟩ := w; refine ih ?_; rw [hget_cons, hget_cons, hh]
      refine key ?_
      obtain ⟨m, x⟩ := u
      simp only at hu
      rw [hget_cons, hget_cons, if_pos hu, if_pos hu]
theorem hup_eq {n : Nat} : ∀ {us : Ups} {h h' : VH}, hget h n = hget h' n → hget (hup h us) n = hget (hup h' us) n
  | [], _, _, hh => hh
  | (m, x) :: us, h, h', hh => by
    refine hup_eq (us := us) ?_
    rw [hget_cons, hget_cons, hh]
theorem hup_out {n : Nat} : ∀ {us : Ups} {h : VH}, n ∉ upN us → hget (hup h us) n = hget h n
  | [], _, _ => rfl
  | (m, x) :: us, h, hn => by
    simp only [upN, List.mem_cons, not_or] at hn
    show hget (hup ((m, x) :: h) us) n = _
    rw [hup_out hn.2, hget_cons, if_neg (fun he => hn.1 he.symm)]
theorem Same.eff {s s' : VSt} (H : Same s s') (e : Eff) : Same (s.eff e) (s'.eff e) :=
  ⟨fun d => by rw [eff_lk, eff_lk, H.t d], fun n => hup_eq (H.h n), H.nx⟩
theorem foldE_same {S : Nat → Bool} : ∀ {es : List Eff} {k : Nat} {s s' : VSt}, Same s s' → Same (foldE S es k s) (foldE S es k s')
  | [], _, _, _, H => H
  | e :: es, k, s, s', H => by
    simp only [foldE]
    refine foldE_same ?_
    cases S k
    · exact H
    · exact H.eff e
theorem foldE_nx {S : Nat → Bool} : ∀ {es : List Eff} {k : Nat} {s : VSt}, (foldE S es k s).nx = s.nx
  | [], _, _ => rfl
  | e :: es, k, s => by
    simp only [foldE]
    rw [foldE_nx]
    cases S k <;> rfl
theorem foldE_congr {S S' : Nat → Bool} : ∀ {es : List Eff} {k : Nat} {s : VSt}, (∀ m, m < es.length → S (k + m) = S' (k + m)) → foldE S es k s = foldE S' es k s
  | [], _, _, _ => rfl
  | e :: es, k, s, H => by
    simp only [foldE]
    rw [show S k = S' k from H 0 (by simp)]
    exact foldE_congr fun m hm => by rw [Nat.add_assoc, Nat.add_comm 1 m]; exact H (m + 1) (by simpa using hm)
theorem foldE_none {S : Nat → Bool} : ∀ {es : List Eff} {k : Nat} {s : VSt}, (∀ m, m < es.length → S (k + m) = false) → foldE S es k s = s
  | [], _, _, _ => rfl
  | e :: es, k, s, H => by
    simp only [foldE]
    rw [show S k = false from H 0 (by simp)]
    exact foldE_none fun m hm => by rw [Nat.add_assoc, Nat.add_comm 1 m]; exact H (m + 1) (by simpa using hm)
theorem at_succ {es : List Eff} {e e' : Eff} {k m : Nat} {p : Nat → Eff → Prop} (H : ∀ m e', (e :: es)[m]? = some e' → p (k + m) e') (h : es[m]? = some e') : p (k + 1 + m) e' := by
  have := H (m + 1) e' (by simpa using h)
  rwa [show k + 1 + m = k + (m + 1) by omega]
theorem foldE_t2 {S S' : Nat → Bool} {d : Tmp} : ∀ {es : List Eff} {k : Nat} {s s' : VSt}, lk s.t d = lk s'.t d → (∀ m e, es[m]? = some e → S (k + m) ≠ S' (k + m) → e.dst ≠ some d) → lk (foldE S es k s).t d = lk (foldE S' es k s').t d
  | [], _, _, _, H, _ => H
  | e :: es, k, s, s', H, hd => by
    simp only [foldE]
    refine foldE_t2 ?_ fun m e' he => at_succ (p := fun i e' => S i ≠ S' i → e'.dst ≠ some d) hd he
    have h0 := hd 0 e rfl
    rw [Nat.add_zero] at h0
    cases h1 : S k <;> cases h2 : S' k <;> simp only [cond_true, cond_false, eff_lk]
    · exact H
    · rw [if_neg (h0 (by rw [h1, h2]; simp))]; exact H
    · rw [if_neg (h0 (by rw [h1, h2]; simp))]; exact H
    · rw [H]
theorem foldE_h2 {S S' : Nat → Bool} {n : Nat} : ∀ {es : List Eff} {k : Nat} {s s' : VSt}, hget s.h n = hget s'.h n → (∀ m e, es[m]? = some e → S (k + m) ≠ S' (k + m) → n ∉ upN e.us) → hget (foldE S es k s).h n = hget (foldE S' es k s').h n
  | [], _, _, _, H, _ => H
  | e :: es, k, s, s', H, hd => by
    simp only [foldE]
    refine foldE_h2 ?_ fun m e' he => at_succ (p := fun i e' => S i ≠ S' i → n ∉ upN e'.us) hd he
    have h0 := hd 0 e rfl
    rw [Nat.add_zero] at h0
    cases h1 : S k <;> cases h2 : S' k <;> simp only [cond_true, cond_false, eff_h]
    · exact H
    · rw [hup_out (h0 (by rw [h1, h2]; simp))]; exact H
    · rw [hup_out (h0 (by rw [h1, h2]; simp))]; exact H
    · exact hup_eq H
theorem live_hup {n : Nat} : ∀ {us : Ups} {h : VH}, n ∈ upN us → (∀ u ∈ us, u.1 = n → live u.2 = true) → live (hget (hup h us) n) = true
  | (m, x) :: us, h, hn, hl => by
    simp only [hup]
    by_cases hm : n ∈ upN us
    · exact live_hup hm fun u hu => hl u (by simp [hu])
    · rw [hup_out hm, hget_cons]
      simp only [upN, List.mem_cons] at hn
      have hu : m = n := hn.elim (fun h1 => h1.symm) (fun h1 => absurd h1 hm)
      rw [if_pos hu]
      exact hl (m, x) (by simp) hu
/-- what is there before i, in the order of the text, is there when others are done -/
theorem foldE_l2 {i : Nat} {S : Nat → Bool} {n : Nat} : ∀ {es : List Eff} {k : Nat} {s s' : VSt}, (live (hget s.h n) = true → live (hget s'.h n) = true) →
    (∀ m e, es[m]? = some e → Nat.blt (k + m) i = true → S (k + m) = false → n ∈ upN e.us → live (hget (foldE (fun x => Nat.blt x (k + m)) es k s).h n) = true) →
    (∀ m e, es[m]? = some e → Nat.blt (k + m) i = false → S (k + m) = true → n ∈ upN e.us → ∀ u ∈ e.us, u.1 = n → live u.2 = true) →
    live (hget (foldE (fun x => Nat.blt x i) es k s).h n) = true → live (hget (foldE S es k s').h n) = true
  | [], _, _, _, H, _, _, hl => H hl
  | e :: es, k, s, s', H, h1, h2, hl => by
    simp only [foldE] at hl ⊢
    have h10 := h1 0 e rfl
    have h20 := h2 0 e rfl
    rw [Nat.add_zero] at h10 h20
    have e0 : foldE (fun x => Nat.blt x k) (e :: es) k s = s := foldE_none fun m _ => by
      cases hb : Nat.blt (k + m) k with
      | false => rfl
      | true => have := Nat.le_of_ble_eq_true hb; omega
    refine foldE_l2 (i := i) (S := S) (s := cond (Nat.blt k i) (s.eff e) s) ?_ ?_ ?_ hl
    · cases hb : Nat.blt k i <;> cases hS : S k <;> simp only [cond_true, cond_false, eff_h]
      · exact H
      · intro hs
        by_cases hn : n ∈ upN e.us
        · exact live_hup hn (h20 hb hS hn)
        · rw [hup_out hn]; exact H hs
      · intro hs
        by_cases hn : n ∈ upN e.us
        · have := h10 hb hS hn
          rw [e0] at this
          exact H this
        · rw [hup_out hn] at hs; exact H hs
      · intro hs
        by_cases hn : n ∈ upN e.us
        · rw [hup_in (h' := s.h) hn]; exact hs
        · rw [hup_out hn] at hs ⊢; exact H hs
    · intro m e' he hb hS hn
      have := h1 (m + 1) e' (by simpa using he)
      rw [show k + (m + 1) = k + 1 + m by omega] at this
      have h3 := this hb hS hn
      simp only [foldE] at h3
      have hki : Nat.blt k i = true := by
        have := Nat.le_of_ble_eq_true hb
        exact Nat.ble_eq_true_of_le (by omega)
      have hkm : Nat.blt k (k + 1 + m) = true := Nat.ble_eq_true_of_le (by omega)
      rw [hkm] at h3
      rw [hki]
      exact h3
    · intro m e' he
      have := h2 (m + 1) e' (by simpa using he)
      rw [show k + (m + 1) = k + 1 + m by omega] at this
      exact this
/-- one more effect -/
def addS (S : Nat → Bool) (i : Nat) : Nat → Bool := fun x => Nat.beq x i || S x
theorem addS_self {S : Nat → Bool} {i : Nat} : addS S i i = true := by simp [addS]
theorem addS_ne {S : Nat → Bool} {i x : Nat} (h : x ≠ i) : addS S i x = S x := by
  have : Nat.beq x i = false := by
    cases hb : Nat.beq x i with
    | false => rfl
    | true => exact absurd (Nat.eq_of_beq_eq_true hb) h
  simp [addS, this]
theorem foldE_add {S : Nat → Bool} {e : Eff} : ∀ {es : List Eff} {k m : Nat} {s : VSt}, es[m]? = some e → S (k + m) = false →
    (∀ j e', es[j]? = some e' → m < j → S (k + j) = true → (∀ d, e.dst = some d → e'.dst ≠ some d) ∧ ∀ n ∈ upN e.us, n ∉ upN e'.us) →
    Same ((foldE S es k s).eff e) (foldE (addS S (k + m)) es k s)
  | [], _, _, _, he, _, _ => by simp at he
  | e1 :: es, k, 0, s, he, hS, hd => by
    simp only [List.getElem?_cons_zero, Option.some.injEq] at he
    subst he
    rw [Nat.add_zero] at hS
    simp only [foldE, Nat.add_zero, hS, addS_self, cond_true, cond_false]
    have hc : foldE (addS S k) es (k + 1) (s.eff e1) = foldE S es (k + 1) (s.eff e1) := foldE_congr fun m _ => addS_ne (by omega)
    rw [hc]
    have hd' : ∀ j e', es[j]? = some e' → S (k + 1 + j) = true → (∀ d, e1.dst = some d → e'.dst ≠ some d) ∧ ∀ n ∈ upN e1.us, n ∉ upN e'.us := by
      intro j e' he hS
      have := hd (j + 1) e' (by simpa using he) (by omega)
      rw [show k + (j + 1) = k + 1 + j by omega] at this
      exact this hS
    refine ⟨fun d => ?_, fun n => ?_, ?_⟩
    · rw [eff_lk]
      by_cases hdd : e1.dst = some d
      · rw [if_pos hdd]
        have h1 : lk (foldE (fun _ => false) es (k + 1) (s.eff e1)).t d = lk (foldE S es (k + 1) (s.eff e1)).t d := by
          refine foldE_t2 rfl fun m e' he hne => ?_
          refine (hd' m e' he ?_).1 d hdd
          cases hh : S (k + 1 + m) with
          | true => rfl
          | false => rw [hh] at hne; exact absurd rfl hne
        rw [← h1, foldE_none (S := fun _ => false) (fun _ _ => rfl), eff_lk, if_pos hdd]
      · rw [if_neg hdd]
        refine foldE_t2 ?_ fun _ _ _ hne => absurd rfl hne
        rw [eff_lk, if_neg hdd]
    · rw [eff_h]
      by_cases hn : n ∈ upN e1.us
      · have h1 : hget (foldE (fun _ => false) es (k + 1) (s.eff e1)).h n = hget (foldE S es (k + 1) (s.eff e1)).h n := by
          refine foldE_h2 rfl fun m e' he hne => ?_
          refine (hd' m e' he ?_).2 n hn
          cases hh : S (k + 1 + m) with
          | true => rfl
          | false => rw [hh] at hne; exact absurd rfl hne
        rw [← h1, foldE_none (S := fun _ => false) (fun _ _ => rfl), eff_h]
        exact hup_in hn
      · rw [hup_out hn]
        refine foldE_h2 ?_ fun _ _ _ hne => absurd rfl hne
        rw [eff_h, hup_out hn]
    · rw [eff_nx, foldE_nx, foldE_nx, eff_nx]
  | e1 :: es, k, m + 1, s, he, hS, hd => by
    simp only [foldE]
    rw [addS_ne (show k ≠ k + (m + 1) by omega), show k + (m + 1) = k + 1 + m by omega]
    refine foldE_add (by simpa using he) (by rw [show k + 1 + m = k + (m + 1) by omega]; exact hS) ?_
    intro j e' he' hj hS'
    refine hd (j + 1) e' (by simpa using he') (by omega) ?_
    rw [show k + (j + 1) = k + 1 + j by omega]; exact hS'
end Go.RX

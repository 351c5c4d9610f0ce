/- VX, part 5: what is frozen. -/
import Derived.Test.YtpcmbchibhcdiaaDoorVx4
namespace Go.RX
open Go

variable {nt : Nat} {f : Nat → Nat} {vs : VSt} {st : St}

/-- how a value is told once object n is frozen -/
theorem relA.frz {h : VH} {n : Nat} {T : Ty} {rows : List T.den} (hs : hget h n = .arr T rows false) (hinj : ∀ m, live (hget h m) = true → f m = f n → m = n) {a : TA} {e : EV} (hr : relA h f a e) :
    relA ((n, .arr T rows true) :: h) f a (frzE (f n) T.w (rows.map T.cells) e) := by
  cases a with
  | dead => trivial
  | v S x => obtain ⟨h1, rfl⟩ := hr; refine ⟨h1, ?_⟩; cases S <;> rfl
  | nilS r => obtain ⟨h1, rfl⟩ := hr; exact ⟨h1, rfl⟩
  | rptr S x k => obtain ⟨h1, rfl⟩ := hr; exact ⟨h1, rfl⟩
  | fn g => simp only [relA] at hr ⊢; subst hr; rfl
  | own m sg =>
    simp only [relA] at hr ⊢
    rw [hget_cons]
    by_cases hm : n = m
    · subst hm
      rw [if_pos rfl]
      rw [hs] at hr
      obtain ⟨h1, _, h3⟩ := hr
      refine ⟨h1, fun _ => ?_, fun hz => by simp at hz⟩
      rw [h3 rfl]
      simp only [frzE, if_true]
      rw [segOf_eq]
      simp [List.map_take, List.map_drop]
    · rw [if_neg hm]
      cases hh : hget h m with
      | free => rw [hh] at hr; exact hr.elim
      | gone => trivial
      | box _ => rw [hh] at hr; exact hr.elim
      | arr S rs fz =>
        rw [hh] at hr
        obtain ⟨h1, h2, h3⟩ := hr
        refine ⟨h1, fun hz => ?_, fun hz => ?_⟩
        · rw [h2 hz]; rfl
        · have hne : f m ≠ f n := fun he => hm (hinj m (by rw [hh, hz]; rfl) he).symm
          rw [h3 hz]
          simp [frzE, hne]
  | ptr m row k =>
    simp only [relA] at hr ⊢
    rw [hget_cons]
    by_cases hm : n = m
    · subst hm
      rw [if_pos rfl]
      rw [hs] at hr
      exact ⟨hr.1, hr.2.1, fun hz => by simp at hz⟩
    · rw [if_neg hm]
      cases hh : hget h m with
      | free => rw [hh] at hr; exact hr.elim
      | gone => trivial
      | box _ => rw [hh] at hr; obtain ⟨h1, rfl⟩ := hr; exact ⟨h1, rfl⟩
      | arr S rs fz =>
        rw [hh] at hr
        obtain ⟨h1, h2, h3⟩ := hr
        exact ⟨h1, h2, fun hz => by rw [h3 hz]; rfl⟩

theorem frozen_frz {h : VH} {n : Nat} {T : Ty} {rows : List T.den} {a : TA} (hz : frozen ((n, .arr T rows true) :: h) a = false) : frozen h a = false ∧ ∀ sg, a ≠ .own n sg := by
  cases a with
  | own m sg =>
    simp only [frozen, hget_cons] at hz ⊢
    by_cases hm : n = m
    · subst hm; simp at hz
    · rw [if_neg hm] at hz
      exact ⟨hz, fun sg' he => hm (by injection he with h1 _; exact h1.symm)⟩
  | _ => exact ⟨rfl, fun _ he => by cases he⟩

theorem relV.frz {h : VH} {n : Nat} {T : Ty} {rows : List T.den} (hs : hget h n = .arr T rows false) (hinj : ∀ m, live (hget h m) = true → f m = f n → m = n) {a : TV} {e : EV} (hr : relV h f a e) :
    relV ((n, .arr T rows true) :: h) f a (frzE (f n) T.w (rows.map T.cells) e) := by
  cases a with
  | a x => exact relA.frz hs hinj hr
  | tup xs =>
    obtain ⟨es, rfl, hx⟩ := hr
    refine ⟨es, rfl, hx.mono fun x e hxe hz => ?_⟩
    obtain ⟨h1, h2⟩ := frozen_frz hz
    have h3 := hxe h1
    -- what is told of x does not speak of n
    cases x with
    | dead => trivial
    | v S x => exact h3
    | nilS r => exact h3
    | rptr S x k => exact h3
    | fn g => exact h3
    | own m sg =>
      have hm : n ≠ m := fun he => h2 sg (by rw [he])
      simp only [relA] at h3 ⊢
      rw [hget_ne _ _ hm]; exact h3
    | ptr m row k =>
      simp only [relA] at h3 ⊢
      rw [hget_cons]
      by_cases hm : n = m
      · subst hm
        rw [if_pos rfl]; rw [hs] at h3
        exact ⟨h3.1, h3.2.1, fun hz => by simp at hz⟩
      · rw [if_neg hm]; exact h3

theorem All2.map_right {α β γ : Type} {R : α → β → Prop} {S : α → γ → Prop} {g : β → γ} (hr : ∀ a b, R a b → S a (g b)) : ∀ {as : List α} {bs : List β}, All2 R as bs → All2 S as (bs.map g)
  | [], [], _ => trivial
  | _ :: _, _ :: _, h => ⟨hr _ _ h.1, All2.map_right hr h.2⟩
  | [], _ :: _, h => h.elim
  | _ :: _, [], h => h.elim

theorem Rel.frzN (h : Rel nt f vs st) {n : Nat} {T : Ty} {rows : List T.den} (hs : hget vs.h n = .arr T rows false) :
    Rel nt f ⟨vs.t, (n, .arr T rows true) :: vs.h, vs.nx⟩ (frz (f n) st) := by
  have hln : live (hget vs.h n) = true := by rw [hs]; rfl
  have hinj : ∀ m, live (hget vs.h m) = true → f m = f n → m = n := fun m hm he => h.inj m n hm hln he
  obtain ⟨hlt, hob⟩ := relS.arr h hs
  have hfrz : frz (f n) st = { t := st.t.map (frzE (f n) T.w (rows.map T.cells)), o := fun m => if m = f n then none else (st.o m).map (frzO (f n) T.w (rows.map T.cells)), nx := st.nx } := by
    unfold frz; rw [hob]
  have lv : ∀ m, live (hget ((n, .arr T rows true) :: vs.h) m) = true → n ≠ m ∧ live (hget vs.h m) = true := by
    intro m hm
    rw [hget_cons] at hm
    split at hm
    · simp [live] at hm
    · rename_i hne; exact ⟨hne, hm⟩
  rw [hfrz]
  refine ⟨?_, by simpa using h.nt, ?_, fun a b ha hb => h.inj a b (lv a ha).2 (lv b hb).2, h.io, h.nx⟩
  · intro i v hv
    obtain ⟨e, he, hr⟩ := h.t i v hv
    exact ⟨_, by simp [he], relV.frz hs hinj hr⟩
  · intro m
    simp only
    rw [hget_cons]
    split
    · rename_i he
      subst he
      exact ⟨relS.ok h hs, fun hz => by simp at hz⟩
    · rename_i hne
      have hm := h.h m
      cases hh : hget vs.h m with
      | free => trivial
      | gone => trivial
      | arr S rs fz =>
        rw [hh] at hm
        refine ⟨hm.1, fun hz => ?_⟩
        obtain ⟨h1, h2⟩ := hm.2 hz
        have fne : f m ≠ f n := fun he => hne (hinj m (by rw [hh, hz]; rfl) he).symm
        refine ⟨h1, ?_⟩
        simp only [if_neg fne, h2]
        rfl
      | box cells =>
        rw [hh] at hm
        obtain ⟨h1, es, h2, h3⟩ := hm
        have fne : f m ≠ f n := fun he => hne (hinj m (by rw [hh]; rfl) he).symm
        refine ⟨h1, es.map (frzE (f n) T.w (rows.map T.cells)), ?_, h3.map_right fun a e hae => relA.frz hs hinj hae⟩
        simp only [if_neg fne, h2]
        rfl

/-- a value that may have been told before its object was frozen -/
def relF (h : VH) (f : Nat → Nat) (st : St) (a : TA) (e : EV) : Prop :=
  (solid h a = true ∧ relA h f a e) ∨ (frozen h a = true ∧ ∃ k o l, e = .own k o l ∧ st.o k = none) ∨ (∃ n r k n' r' k', a = .ptr n r k ∧ e = .ptr n' r' k' ∧ isArr (hget h n) = true)

theorem frzOf_none {st : St} {k o l : Nat} (h : st.o k = none) : frzOf st (.own k o l) = st := by simp [frzOf, frz, h]

theorem frz1_cases (h : Rel nt f vs st) {a : TA} {e : EV} (hr : relF vs.h f st a e) :
    (frz1 vs.h a = [] ∧ frzOf st e = st) ∨ (∃ n sg T, ∃ rows : List T.den, a = .own n sg ∧ hget vs.h n = .arr T rows false ∧ frz1 vs.h a = [(n, .arr T rows true)] ∧ frzOf st e = frz (f n) st ∧ (frz (f n) st).o (f n) = none) := by
  rcases hr with ⟨hd, hr⟩ | ⟨hf, k, o, l, rfl, hn⟩ | ⟨n, r, k, n', r', k', rfl, rfl, _⟩
  · cases a with
    | dead => simp [solid] at hd
    | v S x => obtain ⟨h1, rfl⟩ := hr; cases S <;> exact .inl ⟨rfl, rfl⟩
    | nilS r => obtain ⟨h1, rfl⟩ := hr; exact .inl ⟨rfl, rfl⟩
    | rptr S x k => obtain ⟨h1, rfl⟩ := hr; exact .inl ⟨rfl, rfl⟩
    | fn g => simp only [relA] at hr; subst hr; exact .inl ⟨rfl, rfl⟩
    | own m sg =>
      simp only [relA] at hr
      cases hh : hget vs.h m with
      | free => rw [hh] at hr; exact hr.elim
      | gone => simp [solid, hh, isArr] at hd
      | box _ => rw [hh] at hr; exact hr.elim
      | arr S rs fz =>
        rw [hh] at hr
        obtain ⟨h1, h2, h3⟩ := hr
        cases fz with
        | true => rw [h2 rfl]; exact .inl ⟨by simp [Go.RX.frz1, hh], rfl⟩
        | false =>
          rw [h3 rfl]
          obtain ⟨_, hob⟩ := relS.arr h hh
          exact .inr ⟨m, sg, S, rs, rfl, hh, by simp [Go.RX.frz1, hh], rfl, by simp [frz, hob]⟩
    | ptr m row k =>
      simp only [relA] at hr
      cases hh : hget vs.h m with
      | free => rw [hh] at hr; exact hr.elim
      | gone => simp [solid, hh, live] at hd
      | box _ => rw [hh] at hr; obtain ⟨h1, rfl⟩ := hr; exact .inl ⟨rfl, rfl⟩
      | arr S rs fz =>
        rw [hh] at hr
        cases fz with
        | true => simp [solid, hh, live] at hd
        | false => rw [hr.2.2 rfl]; exact .inl ⟨rfl, rfl⟩
  · rw [frzOf_none hn]
    refine .inl ⟨?_, rfl⟩
    cases a with
    | own m sg =>
      simp only [frozen] at hf
      simp only [Go.RX.frz1]
      split at hf
      · rename_i T rows hs; rw [hs]
      · simp at hf
    | _ => simp [frozen] at hf
  · exact .inl ⟨rfl, rfl⟩

theorem Rel.frz1 (h : Rel nt f vs st) {a : TA} {e : EV} (hr : relF vs.h f st a e) : Rel nt f (vs.up (frz1 vs.h a)) (frzOf st e) := by
  rcases frz1_cases h hr with ⟨h1, h2⟩ | ⟨n, sg, T, rows, rfl, hh, h1, h2, _⟩
  · rw [h1, h2]; exact h
  · rw [h1, h2]; exact h.frzN hh

theorem relF.step (h : Rel nt f vs st) {a : TA} {e : EV} (hr : relF vs.h f st a e) {b : TA} {e' : EV} (hb : relF vs.h f st b e') : relF (hup vs.h (Go.RX.frz1 vs.h a)) f (frzOf st e) b e' := by
  rcases frz1_cases h hr with ⟨h1, h2⟩ | ⟨n, sg, T, rows, rfl, hh, h1, h2, h3⟩
  · rw [h1, h2]; exact hb
  · rw [h1, h2]
    simp only [hup]
    rcases hb with ⟨hd, hb⟩ | ⟨hf, k, o, l, rfl, hn⟩ | hb
    · cases b with
      | dead => simp [solid] at hd
      | v S x => exact .inl ⟨rfl, hb⟩
      | nilS r => exact .inl ⟨rfl, hb⟩
      | rptr S x k => exact .inl ⟨rfl, hb⟩
      | fn g => exact .inl ⟨rfl, hb⟩
      | own m sg' =>
        by_cases hm : n = m
        · subst hm
          simp only [relA] at hb
          rw [hh] at hb
          refine .inr (.inl ⟨by simp [frozen, hget_same], f n, _, _, hb.2.2 rfl, h3⟩)
        · refine .inl ⟨?_, ?_⟩
          · simp only [solid] at hd ⊢; rw [hget_ne _ _ hm]; exact hd
          · simp only [relA] at hb ⊢; rw [hget_ne _ _ hm]; exact hb
      | ptr m row k =>
        simp only [relA] at hb
        cases hm : hget vs.h m with
        | free => rw [hm] at hb; exact hb.elim
        | gone => simp [solid, hm, live] at hd
        | box cs =>
          have hne : n ≠ m := fun he => by subst he; rw [hh] at hm; simp at hm
          refine .inl ⟨by simp only [solid] at hd ⊢; rw [hget_ne _ _ hne]; exact hd, ?_⟩
          simp only [relA]
          rw [hget_ne _ _ hne, hm]
          rw [hm] at hb
          exact hb
        | arr S rs fz =>
          rw [hm] at hb
          cases fz with
          | true => simp [solid, hm, live] at hd
          | false =>
            rw [hb.2.2 rfl]
            refine .inr (.inr ⟨_, _, _, _, _, _, rfl, rfl, ?_⟩)
            rw [hget_cons]; split <;> first | rfl | (rw [hm]; rfl)
    · refine .inr (.inl ⟨?_, k, o, l, rfl, ?_⟩)
      · cases b with
        | own m sg' =>
          simp only [frozen] at hf ⊢
          by_cases hm : n = m
          · subst hm; rw [hget_same]
          · rw [hget_ne _ _ hm]; exact hf
        | _ => simp [frozen] at hf
      · have : (frz (f n) st).o k = none := by
          unfold frz
          split
          · simp only; split
            · rfl
            · rw [hn]; rfl
          · exact hn
        exact this
    · obtain ⟨m, r, k, m', r', k', rfl, rfl, hm⟩ := hb
      refine .inr (.inr ⟨_, _, _, _, _, _, rfl, rfl, ?_⟩)
      rw [hget_cons]; split <;> first | rfl | exact hm

theorem up_append (vs : VSt) (us ws : Ups) : vs.up (us ++ ws) = (vs.up us).up ws := by
  have key : ∀ (us : Ups) (h : VH), hup h (us ++ ws) = hup (hup h us) ws := by
    intro us
    induction us with
    | nil => intro h; rfl
    | cons u us ih => intro h; exact ih (u :: h)
  simp only [VSt.up]
  rw [key]
theorem hup_append (h : VH) (us ws : Ups) : hup h (us ++ ws) = hup (hup h us) ws := by
  induction us generalizing h with
  | nil => rfl
  | cons u us ih => exact ih (u :: h)

theorem Rel.frzL : ∀ {as : List TA} {es : List EV} {vs : VSt} {st : St}, Rel nt f vs st → All2 (relF vs.h f st) as es → Rel nt f (vs.up (frzL vs.h as)) (frzCells st es)
  | [], [], vs, st, h, _ => h
  | a :: as, e :: es, vs, st, h, hr => by
    have h1 := h.frz1 hr.1
    have h2 : All2 (relF (vs.up (Go.RX.frz1 vs.h a)).h f (frzOf st e)) as es := hr.2.mono fun b e' hb => relF.step h hr.1 hb
    have h3 := Rel.frzL h1 h2
    simp only [Go.RX.frzL, up_append]
    exact h3
  | [], _ :: _, _, _, _, h => h.elim
  | _ :: _, [], _, _, _, h => h.elim

theorem solidL_relF {h : VH} {st : St} : ∀ {as : List TA} {es : List EV}, solidL h as = true → All2 (relA h f) as es → All2 (relF h f st) as es
  | [], [], _, _ => trivial
  | a :: as, e :: es, hs, hr => by
    simp only [solidL, Bool.and_eq_true] at hs
    exact ⟨.inl ⟨hs.1, hr.1⟩, solidL_relF hs.2 hr.2⟩
  | [], _ :: _, _, h => h.elim
  | _ :: _, [], _, h => h.elim

theorem All2.imp {α β : Type} {R S : α → β → Prop} : ∀ {as : List α} {bs : List β}, All2 R as bs → (∀ a b, R a b → S a b) → All2 S as bs := fun h hr => h.mono hr
theorem relF.steps : ∀ {as : List TA} {es : List EV} {vs : VSt} {st : St}, Rel nt f vs st → All2 (relF vs.h f st) as es → ∀ {b : TA} {e' : EV}, relF vs.h f st b e' → relF (hup vs.h (frzL vs.h as)) f (frzCells st es) b e'
  | [], [], vs, st, h, _, b, e', hb => hb
  | a :: as, e :: es, vs, st, h, hr, b, e', hb => by
    have h1 := h.frz1 hr.1
    have h2 : All2 (relF (vs.up (Go.RX.frz1 vs.h a)).h f (frzOf st e)) as es := hr.2.mono fun b e' hb => relF.step h hr.1 hb
    have h3 := relF.steps h1 h2 (relF.step h hr.1 hb)
    simp only [Go.RX.frzL, hup_append]
    exact h3
  | [], _ :: _, _, _, _, h, _, _, _ => h.elim
  | _ :: _, [], _, _, _, h, _, _, _ => h.elim

/-- a box is frozen: what its cells own -/
theorem frzBox_rel' (h : Rel nt f vs st) {a : TA} {e : EV} (hs : solid vs.h a = true) (hB : solidB vs.h a = true) (hr : relF vs.h f st a e) :
    Rel nt f (vs.up (frzB vs.h a)) (frzBox st e) ∧ ∀ {b : TA} {e' : EV}, relF vs.h f st b e' → relF (hup vs.h (frzB vs.h a)) f (frzBox st e) b e' := by
  have triv : frzB vs.h a = [] → frzBox st e = st → Rel nt f (vs.up (frzB vs.h a)) (frzBox st e) ∧ ∀ {b : TA} {e' : EV}, relF vs.h f st b e' → relF (hup vs.h (frzB vs.h a)) f (frzBox st e) b e' := by
    intro h1 h2; rw [h1, h2]; exact ⟨h, fun hb => hb⟩
  rcases hr with ⟨hd, hr⟩ | ⟨hf, k, o, l, rfl, hn⟩ | ⟨n, r, k, n', r', k', rfl, rfl, hn⟩
  · cases a with
    | dead => simp [solid] at hd
    | v S x => obtain ⟨h1, rfl⟩ := hr; exact triv rfl (by cases S <;> rfl)
    | nilS r => obtain ⟨h1, rfl⟩ := hr; exact triv rfl rfl
    | rptr S x k => obtain ⟨h1, rfl⟩ := hr; exact triv rfl rfl
    | fn g => simp only [relA] at hr; subst hr; exact triv rfl rfl
    | own m sg =>
      simp only [relA] at hr
      cases hh : hget vs.h m with
      | free => rw [hh] at hr; exact hr.elim
      | gone => simp [solid, hh, isArr] at hd
      | box _ => rw [hh] at hr; exact hr.elim
      | arr S rs fz =>
        rw [hh] at hr
        obtain ⟨h1, h2, h3⟩ := hr
        cases fz with
        | true => exact triv rfl (by rw [h2 rfl]; rfl)
        | false => exact triv rfl (by rw [h3 rfl]; rfl)
    | ptr m row k =>
      simp only [relA] at hr
      cases hh : hget vs.h m with
      | free => rw [hh] at hr; exact hr.elim
      | gone => simp [solid, hh, live] at hd
      | arr S rs fz => simp [solidB, hh] at hB
      | box cells =>
        rw [hh] at hr
        obtain ⟨_, rfl⟩ := hr
        simp only [solidB, hh] at hB
        obtain ⟨_, es, h1, h2⟩ := relS.box h hh
        have h3 := solidL_relF (st := st) hB h2
        have e1 : frzB vs.h (.ptr m row k) = frzL vs.h cells := by simp [frzB, hh]
        have e2 : frzBox st (.ptr (f m) 0 k) = frzCells st es := by simp [frzBox, h1]
        rw [e1, e2]
        exact ⟨h.frzL h3, fun hb => relF.steps h h3 hb⟩
  · refine triv ?_ rfl
    cases a <;> first | rfl | simp [frozen] at hf
  · simp only [solidB] at hB
    split at hB
    · rename_i cells hh; rw [hh] at hn; simp [isArr] at hn
    · simp at hB

theorem frzA_rel (h : Rel nt f vs st) (fresh : Bool) {a : TA} {e : EV} (hs : solid vs.h a = true) (hB : solidB (hup vs.h (if fresh then [] else Go.RX.frz1 vs.h a)) a = true) (hr : relF vs.h f st a e) :
    Rel nt f (vs.up (frzA fresh vs.h a)) (frzBox (if fresh then st else frzOf st e) e) ∧
      ∀ {b : TA} {e' : EV}, relF vs.h f st b e' → relF (hup vs.h (frzA fresh vs.h a)) f (frzBox (if fresh then st else frzOf st e) e) b e' := by
  cases fresh with
  | true =>
    simp only [if_true, frzA, List.nil_append, hup] at hB ⊢
    exact frzBox_rel' h hs hB hr
  | false =>
    simp only [if_false, Bool.false_eq_true, frzA] at hB ⊢
    have h1 := h.frz1 hr
    have h2 := relF.step h hr hr
    have hs2 : solid (hup vs.h (Go.RX.frz1 vs.h a)) a = true := by
      rcases frz1_cases h hr with ⟨h1, _⟩ | ⟨n, sg, T, rows, rfl, hh, h1, _, _⟩
      · rw [h1]; exact hs
      · rw [h1]; simp [hup, solid, hget_same, isArr]
    have h3 := frzBox_rel' h1 hs2 hB h2
    simp only [up_append, hup_append]
    exact ⟨h3.1, fun hb => h3.2 (relF.step h hr hb)⟩

theorem frzAs_rel (fresh : Bool) : ∀ {as : List TA} {es : List EV} {vs : VSt} {st : St}, Rel nt f vs st → okAs fresh vs.h as = true → All2 (relF vs.h f st) as es → Rel nt f (vs.up (frzAs fresh vs.h as)) (frzArgs fresh st es)
  | [], [], vs, st, h, _, _ => h
  | a :: as, e :: es, vs, st, h, hok, hr => by
    simp only [okAs, Bool.and_eq_true] at hok
    obtain ⟨⟨h1, h2⟩, h3⟩ := hok
    obtain ⟨h4, h5⟩ := frzA_rel h fresh h1 h2 hr.1
    have h6 : All2 (relF (vs.up (frzA fresh vs.h a)).h f (frzBox (if fresh then st else frzOf st e) e)) as es := hr.2.mono fun b e' hb => h5 hb
    have h7 := frzAs_rel fresh h4 h3 h6
    simp only [Go.RX.frzAs, up_append, frzArgs]
    exact h7
  | [], _ :: _, _, _, _, _, h => h.elim
  | _ :: _, [], _, _, _, _, h => h.elim
end Go.RX

/- VX, part 4: how a typed state stands for RX's: what reading and writing do to it. -/
import Derived.Test.YtpcmbchibhcdiaaDoorVx3
namespace Go.RX
open Go

/-! ### types -/
def fB (ti : TI) : Ty → List TypeId → Bool
  | .cons f r, t :: ts => fB ti f [t] && f.atom && fB ti r ts && !ts.isEmpty
  | .sl r, [t] => (match ti t with
    | some (.sl e) => (match ti e with
      | some (.st fs) => decide (2 ≤ fs.length) && fB ti r fs
      | some _ => fB ti r [e]
      | none => false)
    | _ => false)
  | .int k, [t] => (match ti t with | some (.int k') => decide (k' = k) && !decide (k = .u8) | _ => false)
  | .byte, [t] => (match ti t with | some (.int .u8) => true | _ => false)
  | .bool, [t] => (match ti t with | some .bool => true | _ => false)
  | .str, [t] => (match ti t with | some .str => true | _ => false)
  | _, _ => false
def rowTy (ti : TI) (t : TypeId) (T : Ty) : Bool := match ti t with
  | some (.st fs) => decide (2 ≤ fs.length) && fB ti T fs
  | some _ => fB ti T [t]
  | none => false

theorem fB_ok {ti : TI} : ∀ {T : Ty} {fs : List TypeId}, fB ti T fs = true → T.ok = true ∧ T.w = fs.length
  | .cons f r, [], h => by simp [fB] at h
  | .cons f r, t :: ts, h => by
    simp only [fB, Bool.and_eq_true] at h
    obtain ⟨⟨⟨h1, h2⟩, h3⟩, h4⟩ := h
    obtain ⟨a, b⟩ := fB_ok h1
    obtain ⟨c, d⟩ := fB_ok h3
    exact ⟨by simp [Ty.ok, a, h2, c], by simp [Ty.w, d]⟩
  | .sl r, [t], h => by
    simp only [fB] at h
    split at h
    · split at h
      · simp only [Bool.and_eq_true] at h
        exact ⟨by simpa [Ty.ok] using (fB_ok h.2).1, rfl⟩
      · exact ⟨by simpa [Ty.ok] using (fB_ok h).1, rfl⟩
      · simp at h
    · simp at h
  | .sl r, [], h => by simp [fB] at h
  | .sl r, _ :: _ :: _, h => by simp [fB] at h
  | .int k, [t], _ => ⟨rfl, rfl⟩
  | .int k, [], h => by simp [fB] at h
  | .int k, _ :: _ :: _, h => by simp [fB] at h
  | .byte, [t], _ => ⟨rfl, rfl⟩
  | .byte, [], h => by simp [fB] at h
  | .byte, _ :: _ :: _, h => by simp [fB] at h
  | .bool, [t], _ => ⟨rfl, rfl⟩
  | .bool, [], h => by simp [fB] at h
  | .bool, _ :: _ :: _, h => by simp [fB] at h
  | .str, [t], _ => ⟨rfl, rfl⟩
  | .str, [], h => by simp [fB] at h
  | .str, _ :: _ :: _, h => by simp [fB] at h

theorem fB_one {ti : TI} {T : Ty} {t : TypeId} (h : fB ti T [t] = true) : T.atom = true := by
  cases T <;> first | rfl | skip
  simp [fB] at h
theorem fB_not_st {ti : TI} {T : Ty} {t : TypeId} (h : fB ti T [t] = true) : isSt ti t = some false := by
  unfold isSt
  cases T <;> simp only [fB] at h
  case cons => simp at h
  all_goals
    split at h
    · rename_i h1; rw [h1]
    · simp at h

/-- what a row's type says -/
theorem rowTy_ok {ti : TI} {t : TypeId} {T : Ty} (h : rowTy ti t T = true) : T.ok = true ∧ T.w = szT ti t ∧ isSt ti t = some (!T.atom) := by
  unfold rowTy at h
  unfold szT isSt
  split at h
  · rename_i fs h1
    simp only [Bool.and_eq_true, decide_eq_true_eq] at h
    obtain ⟨a, b⟩ := fB_ok h.2
    rw [h1]
    refine ⟨a, b, ?_⟩
    have : T.atom = false := by
      cases ha : T.atom with
      | false => rfl
      | true => have := Ty.atom_w ha; omega
    simp [this]
  · rename_i k h0 h1
    obtain ⟨a, b⟩ := fB_ok h
    have ha := fB_one h
    have hn := fB_not_st h
    unfold isSt at hn
    rw [h1] at hn ⊢
    refine ⟨a, by rw [b]; cases k <;> first | rfl | exact absurd rfl (h0 _), by rw [ha]; exact hn⟩
  · simp at h
theorem rowTy_sl {ti : TI} {t : TypeId} {r : Ty} (h : rowTy ti t (.sl r) = true) : ∃ e, ti t = some (.sl e) ∧ rowTy ti e r = true := by
  have h2 := (rowTy_ok h).2.2
  unfold rowTy at h
  split at h
  · rename_i fs h1
    unfold isSt at h2; rw [h1] at h2; simp [Ty.atom] at h2
  · simp only [fB] at h
    split at h
    · rename_i e h1
      refine ⟨e, h1, ?_⟩
      unfold rowTy
      split at h
      · exact h
      · exact h
      · simp at h
    · simp at h
  · simp at h
theorem rowTy_elem {ti : TI} {t : TypeId} {r : Ty} (h : rowTy ti t (.sl r) = true) : elemSz ti t = r.w := by
  obtain ⟨e, h1, h2⟩ := rowTy_sl h
  simp only [elemSz, h1]
  exact (rowTy_ok h2).2.1.symm
theorem rowTy_str {ti : TI} {t : TypeId} (h : rowTy ti t .str = true) : ti t = some .str := by
  have h2 := (rowTy_ok h).2.2
  unfold rowTy at h
  split at h
  · rename_i fs h1
    unfold isSt at h2; rw [h1] at h2; simp [Ty.atom] at h2
  · simp only [fB] at h
    split at h
    · assumption
    · simp at h
  · simp at h
theorem rowTy_bool {ti : TI} {t : TypeId} (h : rowTy ti t .bool = true) : ti t = some .bool := by
  have h2 := (rowTy_ok h).2.2
  unfold rowTy at h
  split at h
  · rename_i fs h1
    unfold isSt at h2; rw [h1] at h2; simp [Ty.atom] at h2
  · simp only [fB] at h
    split at h
    · assumption
    · simp at h
  · simp at h
theorem rowTy_byte {ti : TI} {t : TypeId} (h : rowTy ti t .byte = true) : ti t = some (.int .u8) := by
  have h2 := (rowTy_ok h).2.2
  unfold rowTy at h
  split at h
  · rename_i fs h1
    unfold isSt at h2; rw [h1] at h2; simp [Ty.atom] at h2
  · simp only [fB] at h
    split at h
    · assumption
    · simp at h
  · simp at h
theorem rowTy_int {ti : TI} {t : TypeId} {k : IntKind} (h : rowTy ti t (.int k) = true) : ti t = some (.int k) := by
  have h2 := (rowTy_ok h).2.2
  unfold rowTy at h
  split at h
  · rename_i fs h1
    unfold isSt at h2; rw [h1] at h2; simp [Ty.atom] at h2
  · simp only [fB] at h
    split at h
    · rename_i h3
      simp only [Bool.and_eq_true, decide_eq_true_eq] at h
      rw [h3, h.1]
    · simp at h
  · simp at h

/-! ### association lists -/
theorem lk_cons {α : Type} (n : Nat) (x : α) (l : List (Nat × α)) (m : Nat) : lk ((n, x) :: l) m = if n = m then some x else lk l m := by
  simp only [lk]
  by_cases h : n = m
  · have : Nat.beq n m = true := by rw [h]; exact Nat.beq_refl m
    rw [this, if_pos h]; rfl
  · have : Nat.beq n m = false := by
      cases hb : Nat.beq n m with
      | false => rfl
      | true => exact absurd (Nat.eq_of_beq_eq_true hb) h
    rw [this, if_neg h]; rfl
theorem hget_cons (n : Nat) (s : Slot) (h : VH) (m : Nat) : hget ((n, s) :: h) m = if n = m then s else hget h m := by
  simp only [hget, lk_cons]
  split <;> rfl
theorem hget_same (n : Nat) (s : Slot) (h : VH) : hget ((n, s) :: h) n = s := by simp [hget_cons]
theorem hget_ne {n m : Nat} (s : Slot) (h : VH) (hn : n ≠ m) : hget ((n, s) :: h) m = hget h m := by simp [hget_cons, hn]

/-! ### one memory goes on to another -/
structure HLe (h h' : VH) (f f' : Nat → Nat) : Prop where
  gone : ∀ n, hget h n = .gone → hget h' n = .gone
  arr : ∀ n T rows frz, hget h n = .arr T rows frz → hget h' n = .gone ∨ (f' n = f n ∧ ∃ rows', hget h' n = .arr T rows' frz ∧ rows'.length = rows.length ∧ (frz = true → rows' = rows))
  box : ∀ n cells, hget h n = .box cells → hget h' n = .gone ∨ (f' n = f n ∧ ∃ cells', hget h' n = .box cells')

theorem HLe.refl (h : VH) (f : Nat → Nat) : HLe h h f f := ⟨fun _ h => h, fun _ _ _ _ h => .inr ⟨rfl, _, h, rfl, fun _ => rfl⟩, fun _ _ h => .inr ⟨rfl, _, h⟩⟩

theorem segIn_len {α β : Type} {xs : List α} {ys : List β} {sg : Option (Int × Int)} (h : segIn xs sg) (hl : ys.length = xs.length) : segIn ys sg := by
  cases sg with
  | none => trivial
  | some p => obtain ⟨lo, ln⟩ := p; simp only [segIn] at *; omega
theorem segLen_len {α β : Type} {xs : List α} {ys : List β} {sg : Option (Int × Int)} (hl : ys.length = xs.length) : segLen ys sg = segLen xs sg := by
  cases sg with
  | none => exact hl
  | some p => rfl

theorem relA.mono {h h' : VH} {f f' : Nat → Nat} (hl : HLe h h' f f') {a : TA} {e : EV} (hr : relA h f a e) : relA h' f' a e := by
  cases a with
  | dead => trivial
  | v T x => exact hr
  | nilS r => exact hr
  | rptr T x k => exact hr
  | fn g => exact hr
  | own n sg =>
    simp only [relA] at hr ⊢
    cases hs : hget h n with
    | free => rw [hs] at hr; exact hr.elim
    | gone => rw [hl.gone n hs]; trivial
    | arr T rows frz =>
      rw [hs] at hr
      rcases hl.arr n T rows frz hs with h1 | ⟨hf, rows', h1, h2, h3⟩
      · rw [h1]; trivial
      · rw [h1]
        obtain ⟨ha, hb, hc⟩ := hr
        refine ⟨segIn_len ha h2, fun hz => ?_, fun hz => ?_⟩
        · rw [h3 hz]; exact hb hz
        · rw [segLen_len h2, hf]; exact hc hz
    | box _ => rw [hs] at hr; exact hr.elim
  | ptr n row fld =>
    simp only [relA] at hr ⊢
    cases hs : hget h n with
    | free => rw [hs] at hr; exact hr.elim
    | gone => rw [hl.gone n hs]; trivial
    | arr T rows frz =>
      rw [hs] at hr
      rcases hl.arr n T rows frz hs with h1 | ⟨hf, rows', h1, h2, h3⟩
      · rw [h1]; trivial
      · rw [h1]
        obtain ⟨ha, hb, hc⟩ := hr
        exact ⟨ha, by omega, fun hz => by rw [hf]; exact hc hz⟩
    | box cells =>
      rw [hs] at hr
      rcases hl.box n cells hs with h1 | ⟨hf, cells', h1⟩
      · rw [h1]; trivial
      · rw [h1, hf]; exact hr
theorem frozen_le {h h' : VH} {f f' : Nat → Nat} (hl : HLe h h' f f') {a : TA} (hf : frozen h a = true) : frozen h' a = true ∨ (∃ n sg, a = .own n sg ∧ hget h' n = .gone) := by
  cases a <;> simp only [frozen] at hf ⊢ <;> try (simp at hf)
  rename_i n sg
  split at hf
  · rename_i T rows hs
    rcases hl.arr n T rows true hs with h1 | ⟨_, rows', h1, _, _⟩
    · exact .inr ⟨n, sg, rfl, h1⟩
    · rw [h1]; exact .inl rfl
  · simp at hf
theorem relT.mono {h h' : VH} {f f' : Nat → Nat} (hl : HLe h h' f f') {a : TA} {e : EV} (hr : relT h f a e) : relT h' f' a e := by
  intro hz
  cases hf : frozen h a with
  | false => exact relA.mono hl (hr hf)
  | true =>
    rcases frozen_le hl hf with h1 | ⟨n, sg, rfl, h1⟩
    · rw [hz] at h1; simp at h1
    · simp only [relA]; rw [h1]; trivial
theorem relV.mono {h h' : VH} {f f' : Nat → Nat} (hl : HLe h h' f f') {a : TV} {e : EV} (hr : relV h f a e) : relV h' f' a e := by
  cases a with
  | a x => exact relA.mono hl hr
  | tup xs =>
    obtain ⟨es, he, hx⟩ := hr
    exact ⟨es, he, hx.mono fun _ _ => relT.mono hl⟩

/-- a slot that is written: the names of the others stay -/
theorem HLe.set {h : VH} {f : Nat → Nat} {n : Nat} {s : Slot} (hs : match hget h n with
    | .free => True
    | .gone => s = .gone
    | .arr T rows frz => s = .gone ∨ ∃ rows', s = .arr T rows' frz ∧ rows'.length = rows.length ∧ (frz = true → rows' = rows)
    | .box _ => s = .gone ∨ ∃ cells', s = .box cells') : HLe h ((n, s) :: h) f f := by
  refine ⟨fun m hm => ?_, fun m T rows frz hm => ?_, fun m cells hm => ?_⟩
  · rw [hget_cons]
    split
    · rename_i he; subst he; rw [hm] at hs; exact hs
    · exact hm
  · rw [hget_cons]
    split
    · rename_i he; subst he; rw [hm] at hs
      rcases hs with hs | ⟨rows', hs, h2, h3⟩
      · exact .inl hs
      · exact .inr ⟨rfl, rows', hs, h2, h3⟩
    · exact .inr ⟨rfl, rows, hm, rfl, fun _ => rfl⟩
  · rw [hget_cons]
    split
    · rename_i he; subst he; rw [hm] at hs
      rcases hs with hs | ⟨cells', hs⟩
      · exact .inl hs
      · exact .inr ⟨rfl, cells', hs⟩
    · exact .inr ⟨rfl, cells, hm⟩

def VSt.up (vs : VSt) (us : Ups) : VSt := ⟨vs.t, hup vs.h us, vs.nx⟩

theorem upd_f_ne {f : Nat → Nat} {b x n : Nat} (h : n ≠ b) : (fun m => if m = b then x else f m) n = f n := by simp [h]

theorem HLe.new {h : VH} {f : Nat → Nat} {b x : Nat} {s : Slot} (hb : hget h b = .free) : HLe h ((b, s) :: h) f (fun m => if m = b then x else f m) := by
  have ne : ∀ m, hget h m ≠ .free → b ≠ m := fun m hm he => hm (he ▸ hb)
  refine ⟨fun m hm => ?_, fun m T rows frz hm => ?_, fun m cells hm => ?_⟩
  · rw [hget_ne _ _ (ne m (by rw [hm]; simp))]; exact hm
  · have h1 := ne m (by rw [hm]; simp)
    rw [hget_ne _ _ h1]
    exact .inr ⟨by simp [Ne.symm h1], rows, hm, rfl, fun _ => rfl⟩
  · have h1 := ne m (by rw [hm]; simp)
    rw [hget_ne _ _ h1]
    exact .inr ⟨by simp [Ne.symm h1], cells, hm⟩

variable {nt : Nat} {f : Nat → Nat} {vs : VSt} {st : St}

theorem relS.ok {n : Nat} (h : Rel nt f vs st) {T : Ty} {rows : List T.den} {frz : Bool} (hs : hget vs.h n = .arr T rows frz) : T.ok = true := by
  have := h.h n; rw [hs] at this; exact this.1
theorem relS.arr {n : Nat} (h : Rel nt f vs st) {T : Ty} {rows : List T.den} (hs : hget vs.h n = .arr T rows false) : f n < st.nx ∧ st.o (f n) = some (.arr T.w (rows.map T.cells)) := by
  have := h.h n; rw [hs] at this; exact this.2 rfl
theorem relS.box {n : Nat} (h : Rel nt f vs st) {cells : List TA} (hs : hget vs.h n = .box cells) : f n < st.nx ∧ ∃ es, st.o (f n) = some (.box es) ∧ All2 (relA vs.h f) cells es := by
  have := h.h n; rw [hs] at this; exact this

/-- an object, as RX holds it -/
def SlotOb (h : VH) (f : Nat → Nat) (ob : Obj) : Slot → Prop
  | .arr T rows _ => T.ok = true ∧ ob = .arr T.w (rows.map T.cells)
  | .box cells => ∃ es, ob = .box es ∧ All2 (relA h f) cells es
  | _ => False

/-- a new object -/
theorem Rel.new (h : Rel nt f vs st) {b : Nat} {s : Slot} {ob : Obj} (hb : hget vs.h b = .free) (h4 : 4 ≤ b) (hl : live s = true)
    (hs : SlotOb vs.h f ob s) : Rel nt (fun m => if m = b then st.nx else f m) ⟨vs.t, (b, s) :: vs.h, vs.nx⟩ (st.add ob) := by
  have hle : HLe vs.h ((b, s) :: vs.h) f (fun m => if m = b then st.nx else f m) := HLe.new hb
  have lt : ∀ n, live (hget vs.h n) = true → f n < st.nx := by
    intro n hn
    cases hh : hget vs.h n with
    | free => rw [hh] at hn; simp [live] at hn
    | gone => rw [hh] at hn; simp [live] at hn
    | box cells => exact (relS.box h hh).1
    | arr T rows frz =>
      cases frz with
      | true => rw [hh] at hn; simp [live] at hn
      | false => exact (relS.arr h hh).1
  refine ⟨?_, h.nt, ?_, ?_, ?_, Nat.le_succ_of_le h.nx⟩
  · intro i v hv
    obtain ⟨e, he, hr⟩ := h.t i v hv
    exact ⟨e, he, relV.mono hle hr⟩
  · intro n
    simp only
    rw [hget_cons]
    split
    · rename_i he
      subst he
      cases s with
      | free => exact hs.elim
      | gone => exact hs.elim
      | arr T rows frz =>
        cases frz with
        | true => simp [live] at hl
        | false =>
          obtain ⟨h1, h2⟩ := hs
          refine ⟨h1, fun _ => ⟨by simp [St.add], ?_⟩⟩
          simp only [if_true, St.add]
          rw [upd_same, h2]
      | box cells =>
        obtain ⟨es, h1, h2⟩ := hs
        refine ⟨by simp [St.add], es, ?_, h2.mono fun _ _ => relA.mono hle⟩
        simp only [if_true, St.add]
        rw [upd_same, h1]
    · rename_i hne
      have hn := h.h n
      have e1 : ∀ x, (if n = b then x else f n) = f n := fun x => by simp [Ne.symm hne]
      cases hh : hget vs.h n with
      | free => trivial
      | gone => trivial
      | arr T rows frz =>
        rw [hh] at hn
        refine ⟨hn.1, fun hz => ?_⟩
        obtain ⟨h1, h2⟩ := hn.2 hz
        simp only [e1]
        refine ⟨Nat.lt_succ_of_lt h1, ?_⟩
        simp only [St.add]
        rw [upd_ne _ _ (Nat.ne_of_lt h1)]
        exact h2
      | box cells =>
        rw [hh] at hn
        obtain ⟨h1, es, h2, h3⟩ := hn
        simp only [relS, e1]
        refine ⟨Nat.lt_succ_of_lt h1, es, ?_, h3.mono fun _ _ => relA.mono hle⟩
        simp only [St.add]
        rw [upd_ne _ _ (Nat.ne_of_lt h1)]
        exact h2
  · intro n m hn hm hnm
    simp only at hn hm hnm
    rw [hget_cons] at hn hm
    by_cases c1 : b = n
    · by_cases c2 : b = m
      · rw [← c1, ← c2]
      · rw [if_neg c2] at hm
        have := lt m hm
        rw [if_pos c1.symm, if_neg (Ne.symm c2)] at hnm
        omega
    · rw [if_neg c1] at hn
      have h1 := lt n hn
      by_cases c2 : b = m
      · rw [if_neg (Ne.symm c1), if_pos c2.symm] at hnm
        omega
      · rw [if_neg c2] at hm
        rw [if_neg (Ne.symm c1), if_neg (Ne.symm c2)] at hnm
        exact h.inj n m hn hm hnm
  · intro n hn
    have : n ≠ b := by omega
    simp [this, h.io n hn]

/-- an object that is written -/
theorem Rel.set (h : Rel nt f vs st) {n : Nat} {s : Slot} {ob : Obj} (hle : HLe vs.h ((n, s) :: vs.h) f f) (hn : live (hget vs.h n) = true) (hl : live s = true)
    (hs : SlotOb vs.h f ob s) : Rel nt f ⟨vs.t, (n, s) :: vs.h, vs.nx⟩ { st with o := upd st.o (f n) (some ob) } := by
  have lt : ∀ n, live (hget vs.h n) = true → f n < st.nx := by
    intro n hn
    cases hh : hget vs.h n with
    | free => rw [hh] at hn; simp [live] at hn
    | gone => rw [hh] at hn; simp [live] at hn
    | box cells => exact (relS.box h hh).1
    | arr T rows frz =>
      cases frz with
      | true => rw [hh] at hn; simp [live] at hn
      | false => exact (relS.arr h hh).1
  have lv : ∀ m, live (hget ((n, s) :: vs.h) m) = true → live (hget vs.h m) = true := by
    intro m hm
    rw [hget_cons] at hm
    split at hm
    · rename_i he; subst he; exact hn
    · exact hm
  refine ⟨?_, h.nt, ?_, fun a b ha hb => h.inj a b (lv a ha) (lv b hb), h.io, h.nx⟩
  · intro i v hv
    obtain ⟨e, he, hr⟩ := h.t i v hv
    exact ⟨e, he, relV.mono hle hr⟩
  · intro m
    simp only
    rw [hget_cons]
    split
    · rename_i he
      subst he
      cases s with
      | free => exact hs.elim
      | gone => exact hs.elim
      | arr T rows frz =>
        cases frz with
        | true => simp [live] at hl
        | false =>
          obtain ⟨h1, h2⟩ := hs
          exact ⟨h1, fun _ => ⟨lt n hn, by rw [← h2]; exact upd_same _ _ _⟩⟩
      | box cells =>
        obtain ⟨es, h1, h2⟩ := hs
        exact ⟨lt n hn, es, by rw [← h1]; exact upd_same _ _ _, h2.mono fun _ _ => relA.mono hle⟩
    · rename_i hne
      have hm := h.h m
      have fne : live (hget vs.h m) = true → f m ≠ f n := fun hlm he => hne (h.inj m n hlm hn he).symm
      cases hh : hget vs.h m with
      | free => trivial
      | gone => trivial
      | arr T rows frz =>
        rw [hh] at hm fne
        refine ⟨hm.1, fun hz => ?_⟩
        obtain ⟨h1, h2⟩ := hm.2 hz
        refine ⟨h1, ?_⟩
        show upd st.o (f n) (some ob) (f m) = _
        rw [upd_ne _ _ (fne (by subst hz; rfl))]
        exact h2
      | box cells =>
        rw [hh] at hm fne
        obtain ⟨h1, es, h2, h3⟩ := hm
        refine ⟨h1, es, ?_, h3.mono fun _ _ => relA.mono hle⟩
        show upd st.o (f n) (some ob) (f m) = _
        rw [upd_ne _ _ (fne rfl)]
        exact h2

/-- an object that is given up -/
theorem Rel.drop (h : Rel nt f vs st) {n : Nat} (hn : live (hget vs.h n) = true) : Rel nt f ⟨vs.t, (n, .gone) :: vs.h, vs.nx⟩ (st.drop (f n)) := by
  have hle : HLe vs.h ((n, .gone) :: vs.h) f f := HLe.set (by split <;> first | trivial | rfl | exact .inl rfl)
  have lv : ∀ m, live (hget ((n, .gone) :: vs.h) m) = true → n ≠ m ∧ live (hget vs.h m) = true := by
    intro m hm
    rw [hget_cons] at hm
    split at hm
    · simp [live] at hm
    · rename_i hne; exact ⟨hne, hm⟩
  refine ⟨?_, h.nt, ?_, fun a b ha hb => h.inj a b (lv a ha).2 (lv b hb).2, h.io, h.nx⟩
  · intro i v hv
    obtain ⟨e, he, hr⟩ := h.t i v hv
    exact ⟨e, he, relV.mono hle hr⟩
  · intro m
    simp only
    rw [hget_cons]
    split
    · trivial
    · rename_i hne
      have hm := h.h m
      have fne : live (hget vs.h m) = true → f m ≠ f n := fun hlm he => hne (h.inj m n hlm hn he).symm
      cases hh : hget vs.h m with
      | free => trivial
      | gone => trivial
      | arr T rows frz =>
        rw [hh] at hm fne
        refine ⟨hm.1, fun hz => ?_⟩
        obtain ⟨h1, h2⟩ := hm.2 hz
        refine ⟨h1, ?_⟩
        simp only [St.drop]
        rw [upd_ne _ _ (fne (by subst hz; rfl))]
        exact h2
      | box cells =>
        rw [hh] at hm fne
        obtain ⟨h1, es, h2, h3⟩ := hm
        refine ⟨h1, es, ?_, h3.mono fun _ _ => relA.mono hle⟩
        simp only [St.drop]
        rw [upd_ne _ _ (fne rfl)]
        exact h2

/-- a temporary is written -/
theorem Rel.put (h : Rel nt f vs st) {d : Tmp} (hd : d < nt) {v : TV} {e : EV} (hv : relV vs.h f v e) {nx : Nat} : Rel nt f ⟨(d, v) :: vs.t, vs.h, nx⟩ (st.put (some d) e) := by
  refine ⟨?_, by simpa [St.put] using h.nt, h.h, h.inj, h.io, h.nx⟩
  intro i u hu
  simp only at hu
  rw [lk_cons] at hu
  have hlen : d < st.t.length := by rw [h.nt]; exact hd
  split at hu
  · rename_i he
    subst he
    simp only [Option.some.injEq] at hu
    subst hu
    exact ⟨e, by simp [St.put, hlen], hv⟩
  · rename_i hne
    obtain ⟨e', he', hr⟩ := h.t i u hu
    exact ⟨e', by simp [St.put, List.getElem?_set_ne hne, he'], hr⟩
end Go.RX

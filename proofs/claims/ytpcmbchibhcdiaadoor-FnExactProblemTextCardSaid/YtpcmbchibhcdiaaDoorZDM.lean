/- The functions, as they compute; their laws. The first half of each by a program of this session. -/
import Derived.Test.YtpcmbchibhcdiaaDoorVxN
namespace Go.RX
open Go
/-! internal/strconv.small -/
def internal_strconv_small.m (a0 : Int) (Q : ByteArray → Prop) : Prop :=
  br (ilt a0 10) (grd (inn a0 (iadd .i64 a0 1) 36) (Q (ssub ⟨#[48, 49, 50, 51, 52, 53, 54, 55, 56, 57, 97, 98, 99, 100, 101, 102, 103, 104, 105, 106, 107, 108, 109, 110, 111, 112, 113, 114, 115, 116, 117, 118, 119, 120, 121, 122]⟩ a0 (iadd .i64 a0 1)))) (grd (inn (imul .i64 a0 2) (iadd .i64 (imul .i64 a0 2) 2) 200) (Q (ssub ⟨#[48, 48, 48, 49, 48, 50, 48, 51, 48, 52, 48, 53, 48, 54, 48, 55, 48, 56, 48, 57, 49, 48, 49, 49, 49, 50, 49, 51, 49, 52, 49, 53, 49, 54, 49, 55, 49, 56, 49, 57, 50, 48, 50, 49, 50, 50, 50, 51, 50, 52, 50, 53, 50, 54, 50, 55, 50, 56, 50, 57, 51, 48, 51, 49, 51, 50, 51, 51, 51, 52, 51, 53, 51, 54, 51, 55, 51, 56, 51, 57, 52, 48, 52, 49, 52, 50, 52, 51, 52, 52, 52, 53, 52, 54, 52, 55, 52, 56, 52, 57, 53, 48, 53, 49, 53, 50, 53, 51, 53, 52, 53, 53, 53, 54, 53, 55, 53, 56, 53, 57, 54, 48, 54, 49, 54, 50, 54, 51, 54, 52, 54, 53, 54, 54, 54, 55, 54, 56, 54, 57, 55, 48, 55, 49, 55, 50, 55, 51, 55, 52, 55, 53, 55, 54, 55, 55, 55, 56, 55, 57, 56, 48, 56, 49, 56, 50, 56, 51, 56, 52, 56, 53, 56, 54, 56, 55, 56, 56, 56, 57, 57, 48, 57, 49, 57, 50, 57, 51, 57, 52, 57, 53, 57, 54, 57, 55, 57, 56, 57, 57]⟩ (imul .i64 a0 2) (iadd .i64 (imul .i64 a0 2) 2))))

/-- a number under a hundred -/
def num (n : Int) : ByteArray := cond (ilt n 10) ⟨#[UInt8.ofNat (48 + n.toNat)]⟩ ⟨#[UInt8.ofNat (48 + n.toNat / 10), UInt8.ofNat (48 + n.toNat % 10)]⟩
def internal_strconv_small.c (a0 : Int) (Q : ByteArray → Prop) : Prop := (0 ≤ a0 ∧ a0 < 100) ∧ Q (num a0)
def internal_strconv_small.tab1 : ByteArray := ⟨#[48, 49, 50, 51, 52, 53, 54, 55, 56, 57, 97, 98, 99, 100, 101, 102, 103, 104, 105, 106, 107, 108, 109, 110, 111, 112, 113, 114, 115, 116, 117, 118, 119, 120, 121, 122]⟩
def internal_strconv_small.tab2 : ByteArray := ⟨#[48, 48, 48, 49, 48, 50, 48, 51, 48, 52, 48, 53, 48, 54, 48, 55, 48, 56, 48, 57, 49, 48, 49, 49, 49, 50, 49, 51, 49, 52, 49, 53, 49, 54, 49, 55, 49, 56, 49, 57, 50, 48, 50, 49, 50, 50, 50, 51, 50, 52, 50, 53, 50, 54, 50, 55, 50, 56, 50, 57, 51, 48, 51, 49, 51, 50, 51, 51, 51, 52, 51, 53, 51, 54, 51, 55, 51, 56, 51, 57, 52, 48, 52, 49, 52, 50, 52, 51, 52, 52, 52, 53, 52, 54, 52, 55, 52, 56, 52, 57, 53, 48, 53, 49, 53, 50, 53, 51, 53, 52, 53, 53, 53, 54, 53, 55, 53, 56, 53, 57, 54, 48, 54, 49, 54, 50, 54, 51, 54, 52, 54, 53, 54, 54, 54, 55, 54, 56, 54, 57, 55, 48, 55, 49, 55, 50, 55, 51, 55, 52, 55, 53, 55, 54, 55, 55, 55, 56, 55, 57, 56, 48, 56, 49, 56, 50, 56, 51, 56, 52, 56, 53, 56, 54, 56, 55, 56, 56, 56, 57, 57, 48, 57, 49, 57, 50, 57, 51, 57, 52, 57, 53, 57, 54, 57, 55, 57, 56, 57, 57]⟩
theorem internal_strconv_small.all : ((List.range 100).all fun k => cond (ilt k 10) (seq (ssub internal_strconv_small.tab1 k (iadd .i64 k 1)) (num k)) (seq (ssub internal_strconv_small.tab2 (imul .i64 k 2) (iadd .i64 (imul .i64 k 2) 2)) (num k))) = true := by kernel_rfl
theorem internal_strconv_small.law {a0 : Int} {Q : ByteArray → Prop} (h : internal_strconv_small.c a0 Q) : internal_strconv_small.m a0 Q := by
  obtain ⟨⟨h1, h2⟩, h⟩ := h
  obtain ⟨k, rfl⟩ := Int.eq_ofNat_of_zero_le h1
  have hk := List.all_eq_true.mp internal_strconv_small.all k (List.mem_range.mpr (by omega))
  unfold internal_strconv_small.m
  refine brI (fun hb => ?_) (fun hb => ?_)
  · rw [hb] at hk
    have := ilt_i.mp hb
    refine grd_t (inn_t h1 ?_ ?_) ?_
    · rw [iadd64 (by omega) (by omega)]; omega
    · rw [iadd64 (by omega) (by omega)]; omega
    · show Q (ssub internal_strconv_small.tab1 k (iadd .i64 k 1))
      rw [seq_i.mp hk]; exact h
  · rw [hb] at hk
    have e1 : imul .i64 (k : Int) 2 = k * 2 := imul64 (by omega) (by omega)
    refine grd_t ?_ ?_
    · rw [e1]
      refine inn_t (by omega) ?_ ?_
      · rw [iadd64 (by omega) (by omega)]; omega
      · rw [iadd64 (by omega) (by omega)]; omega
    · show Q (ssub internal_strconv_small.tab2 (imul .i64 k 2) (iadd .i64 (imul .i64 k 2) 2))
      rw [seq_i.mp hk]; exact h

def internal_strconv_formatBits.c (_ : List UInt8) (_ _ : Int) (_ _ : Bool) (_ : List UInt8 → ByteArray → Prop) : Prop := False

/-! internal/strconv.FormatInt -/
def internal_strconv_FormatInt.m (a0 : Int) (a1 : Int) (Q : ByteArray → Prop) : Prop :=
  br (ieq a1 10) (br (ile 0 a0) (br (ilt a0 100) (internal_strconv_small.c a0 fun r0 => Q r0) (False)) (False)) (internal_strconv_formatBits.c [] (iconv .u64 a0) a1 (ilt a0 0) false fun r1 r2 => Q r2)

def internal_strconv_FormatInt.c (a0 a1 : Int) (Q : ByteArray → Prop) : Prop := (0 ≤ a0 ∧ a0 < 100 ∧ a1 = 10) ∧ Q (num a0)
theorem internal_strconv_FormatInt.law {a0 a1 : Int} {Q : ByteArray → Prop} (h : internal_strconv_FormatInt.c a0 a1 Q) : internal_strconv_FormatInt.m a0 a1 Q := by
  obtain ⟨⟨h1, h2, h3⟩, h⟩ := h
  unfold internal_strconv_FormatInt.m
  rw [br_t (ieq_t h3), br_t (ile_t h1), br_t (ilt_t h2)]
  exact ⟨⟨h1, h2⟩, h⟩

/-! internal/strconv.Itoa -/
def internal_strconv_Itoa.m (a0 : Int) (Q : ByteArray → Prop) : Prop :=
  internal_strconv_FormatInt.c a0 10 fun r0 => Q r0

def internal_strconv_Itoa.c (a0 : Int) (Q : ByteArray → Prop) : Prop := (0 ≤ a0 ∧ a0 < 100) ∧ Q (num a0)
theorem internal_strconv_Itoa.law {a0 : Int} {Q : ByteArray → Prop} (h : internal_strconv_Itoa.c a0 Q) : internal_strconv_Itoa.m a0 Q := ⟨⟨h.1.1, h.1.2, rfl⟩, h.2⟩

/-! strconv.Itoa -/
def strconv_Itoa.m (a0 : Int) (Q : ByteArray → Prop) : Prop :=
  internal_strconv_Itoa.c a0 fun r0 => Q r0

def strconv_Itoa.c (a0 : Int) (Q : ByteArray → Prop) : Prop := (0 ≤ a0 ∧ a0 < 100) ∧ Q (num a0)
theorem strconv_Itoa.law {a0 : Int} {Q : ByteArray → Prop} (h : strconv_Itoa.c a0 Q) : strconv_Itoa.m a0 Q := h

/-! loop.example/configformatter/impl.in -/
def impl_in.m (a0 : Int) (a1 : Int) (a2 : Int) (Q : Bool → Prop) : Prop :=
  br (ile a1 a0) (Q (ile a0 a2)) (Q false)

def impl_in.c (a0 a1 a2 : Int) (Q : Bool → Prop) : Prop := True ∧ Q (ile a1 a0 && ile a0 a2)
theorem impl_in.law {a0 a1 a2 : Int} {Q : Bool → Prop} (h : impl_in.c a0 a1 a2 Q) : impl_in.m a0 a1 a2 Q := by
  obtain ⟨_, h⟩ := h
  unfold impl_in.m
  refine brI (fun hb => ?_) (fun hb => ?_) <;> rw [hb] at h <;> exact h

/-! loop.example/configformatter/spec.l1In -/
def spec_l1In.m (a0 : Int) (a1 : Int) (a2 : Int) (Q : Bool → Prop) : Prop :=
  br (ile a1 a0) (Q (ile a0 a2)) (Q false)

def spec_l1In.c (a0 a1 a2 : Int) (Q : Bool → Prop) : Prop := True ∧ Q (ile a1 a0 && ile a0 a2)
theorem spec_l1In.law {a0 a1 a2 : Int} {Q : Bool → Prop} (h : spec_l1In.c a0 a1 a2 Q) : spec_l1In.m a0 a1 a2 Q := by
  obtain ⟨_, h⟩ := h
  unfold spec_l1In.m
  refine brI (fun hb => ?_) (fun hb => ?_) <;> rw [hb] at h <;> exact h

/-! loop.example/configformatter/spec.l2Number -/
def spec_l2Number.L0S : Shape := ⟨[(3, .v .str), (0, .v (.int .i64))], [], 4⟩
def spec_l2Number.L0 (Q : ByteArray → Prop) (next0 : ByteArray → Int → Prop) (x0 : ByteArray) (x1 : Int) : Prop :=
  br (ilt 9 x1) (grd (idx (iconv .u8 (iadd .i64 48 (irem (iquo .i64 x1 10) 10))) 256) (grd (nonE [(toB (iconv .u8 (iadd .i64 48 (irem (iquo .i64 x1 10) 10))))]) (grd (fitsS (zadd (slen (strOf [(toB (iconv .u8 (iadd .i64 48 (irem (iquo .i64 x1 10) 10))))])) (slen x0))) (next0 (scat (strOf [(toB (iconv .u8 (iadd .i64 48 (irem (iquo .i64 x1 10) 10))))]) x0) (iquo .i64 x1 10))))) (Q x0)
def spec_l2Number.m (a0 : Int) (Q : ByteArray → Prop) : Prop :=
  grd (idx (iconv .u8 (iadd .i64 48 (irem a0 10))) 256) (grd (nonE [(toB (iconv .u8 (iadd .i64 48 (irem a0 10))))]) (LoopP (fun (next0 : Shape.den spec_l2Number.L0S → Prop) (s : Shape.den spec_l2Number.L0S) => spec_l2Number.L0 Q (fun y0 y1 => next0 ((y0, (y1, ())), ())) s.1.1 s.1.2.1) (((strOf [(toB (iconv .u8 (iadd .i64 48 (irem a0 10))))]), (a0, ())), ())))

set_option maxRecDepth 100000
def spec_l2Number.c (a0 : Int) (Q : ByteArray → Prop) : Prop := (0 ≤ a0 ∧ a0 < 100) ∧ Q (num a0)
theorem spec_l2Number.all : ((List.range 100).all fun k => let d : Int → UInt8 := fun n => toB (iconv .u8 (iadd .i64 48 (irem n 10)))
    idx (iconv .u8 (iadd .i64 48 (irem k 10))) 256 && idx (iconv .u8 (iadd .i64 48 (irem (iquo .i64 k 10) 10))) 256 && ilt (iquo .i64 k 10) 10 &&
    cond (ilt 9 k) (seq (scat (strOf [d (iquo .i64 k 10)]) (strOf [d k])) (num k)) (seq (strOf [d k]) (num k))) = true := by kernel_rfl
theorem spec_l2Number.law {a0 : Int} {Q : ByteArray → Prop} (h : spec_l2Number.c a0 Q) : spec_l2Number.m a0 Q := by
  obtain ⟨⟨h1, h2⟩, h⟩ := h
  obtain ⟨k, rfl⟩ := Int.eq_ofNat_of_zero_le h1
  have hk := List.all_eq_true.mp spec_l2Number.all k (List.mem_range.mpr (by omega))
  simp only [Bool.and_eq_true] at hk
  obtain ⟨⟨⟨hk1, hk2⟩, hk3⟩, hk⟩ := hk
  unfold spec_l2Number.m
  refine grd_t hk1 ?_
  refine grd_t ?_ ?_
  · rfl
  refine ⟨2, ?_⟩
  simp only [itP, spec_l2Number.L0]
  cases hb : ilt 9 (k : Int) with
  | true =>
    rw [hb] at hk
    rw [br_t rfl]
    refine grd_t hk2 ?_
    refine grd_t ?_ ?_
    · rfl
    refine grd_t ?_ ?_
    · exact fitsS_t (by simp [zadd, slen, strOf, ByteArray.size])
    rw [br_f (ilt_f (by have := ilt_i.mp hk3; omega))]
    rw [seq_i.mp hk]; exact h
  | false =>
    rw [hb] at hk
    rw [br_f rfl, seq_i.mp hk]; exact h

/-! loop.example/configformatter/spec.ProblemText -/
def spec_ProblemText.m (a0 : (Int × Int)) (Q : ByteArray → Prop) : Prop :=
  spec_l1In.c a0.1 0 29 fun r0 => br (bnot r0) (Q ⟨#[]⟩) (spec_l1In.c a0.2 1 5 fun r1 => br (bnot r1) (Q ⟨#[]⟩) (spec_l2Number.c (iadd .i64 a0.1 1) fun r2 => grd (fitsS (zadd (slen r2) 2)) (grd (idx (isub .i64 a0.2 1) 5) (grd (fitsS (zadd (slen (scat r2 ⟨#[58, 32]⟩)) (slen (rd .str [⟨#[100, 111, 117, 98, 108, 101, 32, 110, 97, 109, 101]⟩, ⟨#[117, 110, 107, 110, 111, 119, 110, 32, 110, 97, 109, 101]⟩, ⟨#[99, 97, 110, 110, 111, 116, 32, 98, 101, 32, 101, 118, 97, 108, 117, 97, 116, 101, 100]⟩, ⟨#[99, 97, 110, 32, 98, 101, 32, 115, 105, 109, 112, 108, 101, 114]⟩, ⟨#[110, 111, 116, 32, 117, 115, 101, 100]⟩] (isub .i64 a0.2 1))))) (Q (scat (scat r2 ⟨#[58, 32]⟩) (rd .str [⟨#[100, 111, 117, 98, 108, 101, 32, 110, 97, 109, 101]⟩, ⟨#[117, 110, 107, 110, 111, 119, 110, 32, 110, 97, 109, 101]⟩, ⟨#[99, 97, 110, 110, 111, 116, 32, 98, 101, 32, 101, 118, 97, 108, 117, 97, 116, 101, 100]⟩, ⟨#[99, 97, 110, 32, 98, 101, 32, 115, 105, 109, 112, 108, 101, 114]⟩, ⟨#[110, 111, 116, 32, 117, 115, 101, 100]⟩] (isub .i64 a0.2 1))))))))

def problemKind : List ByteArray := [⟨#[100, 111, 117, 98, 108, 101, 32, 110, 97, 109, 101]⟩, ⟨#[117, 110, 107, 110, 111, 119, 110, 32, 110, 97, 109, 101]⟩, ⟨#[99, 97, 110, 110, 111, 116, 32, 98, 101, 32, 101, 118, 97, 108, 117, 97, 116, 101, 100]⟩, ⟨#[99, 97, 110, 32, 98, 101, 32, 115, 105, 109, 112, 108, 101, 114]⟩, ⟨#[110, 111, 116, 32, 117, 115, 101, 100]⟩]
def problemText (p : Int × Int) : ByteArray := cond (ile 0 p.1 && ile p.1 29) (cond (ile 1 p.2 && ile p.2 5) (scat (scat (num (p.1 + 1)) ⟨#[58, 32]⟩) (rd .str problemKind (p.2 - 1))) ⟨#[]⟩) ⟨#[]⟩
theorem num_len {n : Int} : slen (num n) ≤ 2 := by
  unfold num
  cases ilt n 10
  · exact (by decide : (2 : Int) ≤ 2)
  · exact (by decide : (1 : Int) ≤ 2)
theorem scat_len (s t : ByteArray) : slen (scat s t) = slen s + slen t := by
  simp [slen, scat]
theorem kind_len (i : Int) : slen (rd .str problemKind i) ≤ 20 := by
  simp only [rd]
  have : ∀ (l : List ByteArray), (∀ x ∈ l, slen x ≤ 20) → ∀ n, slen (l.getD n ⟨#[]⟩) ≤ 20 := by
    intro l hl n
    rw [List.getD_eq_getElem?_getD]
    cases h : l[n]? with
    | none => decide
    | some x => exact hl x (List.mem_of_getElem? h)
  exact this problemKind (by decide) _
def spec_ProblemText.c (a0 : Int × Int) (Q : ByteArray → Prop) : Prop := True ∧ Q (problemText a0)
theorem spec_ProblemText.law {a0 : Int × Int} {Q : ByteArray → Prop} (h : spec_ProblemText.c a0 Q) : spec_ProblemText.m a0 Q := by
  obtain ⟨_, h⟩ := h
  unfold spec_ProblemText.m
  unfold problemText at h
  refine ⟨trivial, ?_⟩
  cases h1 : (ile 0 a0.1 && ile a0.1 29) with
  | false => rw [h1] at h; exact h
  | true =>
    rw [h1] at h
    rw [br_f (bnot_f rfl)]
    refine ⟨trivial, ?_⟩
    cases h2 : (ile 1 a0.2 && ile a0.2 5) with
    | false => rw [h2] at h; exact h
    | true =>
      rw [h2] at h
      rw [br_f (bnot_f rfl)]
      simp only [Bool.and_eq_true, ile_i] at h1 h2
      have e1 : iadd .i64 a0.1 1 = a0.1 + 1 := iadd64 (by omega) (by omega)
      have e2 : isub .i64 a0.2 1 = a0.2 - 1 := isub64 (by omega) (by omega)
      rw [e1, e2]
      refine ⟨⟨by omega, by omega⟩, ?_⟩
      have l1 := num_len (n := a0.1 + 1)
      have l2 := kind_len (a0.2 - 1)
      refine grd_t ?_ ?_
      · exact fitsS_t (by simp only [zadd]; omega)
      refine grd_t ?_ ?_
      · exact idx_t (by omega) (by omega)
      refine grd_t ?_ h
      refine fitsS_t ?_
      show zadd _ (slen (rd .str problemKind (a0.2 - 1))) ≤ _
      simp only [zadd, scat_len]
      have : slen ⟨#[58, 32]⟩ = 2 := rfl
      omega

/-! loop.example/configformatter/laws.toProblem -/
def laws_toProblem.m (a0 : (Int × Int)) (Q : (Int × Int) → Prop) : Prop :=
  Q (a0.1, a0.2)

def laws_toProblem.c (a0 : Int × Int) (Q : (Int × Int) → Prop) : Prop := True ∧ Q a0
theorem laws_toProblem.law {a0 : Int × Int} {Q : (Int × Int) → Prop} (h : laws_toProblem.c a0 Q) : laws_toProblem.m a0 Q := h.2

/-! loop.example/configformatter/impl.ProblemText -/
def impl_ProblemText.m (a0 : (Int × Int)) (Q : ByteArray → Prop) : Prop :=
  impl_in.c a0.1 0 29 fun r0 => br (bnot r0) (Q ⟨#[]⟩) (impl_in.c a0.2 1 5 fun r1 => br (bnot r1) (Q ⟨#[]⟩) (grd (idx a0.2 6) (strconv_Itoa.c (iadd .i64 a0.1 1) fun r2 => grd (fitsS (zadd (slen r2) 2)) (grd (fitsS (zadd (slen (scat r2 ⟨#[58, 32]⟩)) (slen (rd .str [⟨#[]⟩, ⟨#[100, 111, 117, 98, 108, 101, 32, 110, 97, 109, 101]⟩, ⟨#[117, 110, 107, 110, 111, 119, 110, 32, 110, 97, 109, 101]⟩, ⟨#[99, 97, 110, 110, 111, 116, 32, 98, 101, 32, 101, 118, 97, 108, 117, 97, 116, 101, 100]⟩, ⟨#[99, 97, 110, 32, 98, 101, 32, 115, 105, 109, 112, 108, 101, 114]⟩, ⟨#[110, 111, 116, 32, 117, 115, 101, 100]⟩] a0.2)))) (Q (scat (scat r2 ⟨#[58, 32]⟩) (rd .str [⟨#[]⟩, ⟨#[100, 111, 117, 98, 108, 101, 32, 110, 97, 109, 101]⟩, ⟨#[117, 110, 107, 110, 111, 119, 110, 32, 110, 97, 109, 101]⟩, ⟨#[99, 97, 110, 110, 111, 116, 32, 98, 101, 32, 101, 118, 97, 108, 117, 97, 116, 101, 100]⟩, ⟨#[99, 97, 110, 32, 98, 101, 32, 115, 105, 109, 112, 108, 101, 114]⟩, ⟨#[110, 111, 116, 32, 117, 115, 101, 100]⟩] a0.2)))))))

def impl_ProblemText.c (a0 : Int × Int) (Q : ByteArray → Prop) : Prop := True ∧ Q (problemText a0)
theorem rd_cons (T : Ty) (x : T.den) (l : List T.den) {i : Int} (h : 1 ≤ i) : rd T (x :: l) i = rd T l (i - 1) := by
  obtain ⟨k, rfl⟩ := Int.eq_ofNat_of_zero_le (show 0 ≤ i by omega)
  cases k with
  | zero => omega
  | succ k =>
    simp only [rd]
    have e1 : (((k + 1 : Nat) : Int)).toNat = k + 1 := by omega
    have e2 : (((k + 1 : Nat) : Int) - 1).toNat = k := by omega
    rw [e1, e2]; rfl
theorem impl_ProblemText.law {a0 : Int × Int} {Q : ByteArray → Prop} (h : impl_ProblemText.c a0 Q) : impl_ProblemText.m a0 Q := by
  obtain ⟨_, h⟩ := h
  unfold impl_ProblemText.m
  unfold problemText at h
  refine ⟨trivial, ?_⟩
  cases h1 : (ile 0 a0.1 && ile a0.1 29) with
  | false => rw [h1] at h; exact h
  | true =>
    rw [h1] at h
    rw [br_f (bnot_f rfl)]
    refine ⟨trivial, ?_⟩
    cases h2 : (ile 1 a0.2 && ile a0.2 5) with
    | false => rw [h2] at h; exact h
    | true =>
      rw [h2] at h
      rw [br_f (bnot_f rfl)]
      simp only [Bool.and_eq_true, ile_i] at h1 h2
      have e1 : iadd .i64 a0.1 1 = a0.1 + 1 := iadd64 (by omega) (by omega)
      rw [e1]
      refine grd_t (idx_t (by omega) (by omega)) ?_
      refine ⟨⟨by omega, by omega⟩, ?_⟩
      have l1 := num_len (n := a0.1 + 1)
      have l2 := kind_len (a0.2 - 1)
      show grd _ (grd (fitsS (zadd _ (slen (rd .str (⟨#[]⟩ :: problemKind) a0.2)))) (Q (scat _ (rd .str (⟨#[]⟩ :: problemKind) a0.2))))
      rw [rd_cons .str _ _ h2.1]
      refine grd_t ?_ ?_
      · exact fitsS_t (by simp only [zadd]; omega)
      refine grd_t ?_ h
      refine fitsS_t ?_
      simp only [zadd, scat_len]
      have : slen ⟨#[58, 32]⟩ = 2 := rfl
      omega

/-! loop.example/configformatter/laws.FnExactProblemText -/
def laws_FnExactProblemText.m (a0 : (Int × Int)) (Q : Bool → Prop) : Prop :=
  laws_toProblem.c (a0.1, a0.2) fun r0 => spec_ProblemText.c r0 fun r1 => laws_toProblem.c (a0.1, a0.2) fun r2 => impl_ProblemText.c r2 fun r3 => br (sne r3 r1) (Q false) (Q true)

def laws_FnExactProblemText.c (a0 : Int × Int) (Q : Bool → Prop) : Prop := True ∧ Q true
theorem laws_FnExactProblemText.law {a0 : Int × Int} {Q : Bool → Prop} (h : laws_FnExactProblemText.c a0 Q) : laws_FnExactProblemText.m a0 Q := by
  refine ⟨trivial, trivial, trivial, trivial, ?_⟩
  show br (sne (problemText a0) (problemText a0)) _ _
  rw [br_f (sne_i rfl)]
  exact h.2

end Go.RX

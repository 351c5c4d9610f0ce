/- VX: what the laws of functions use. -/
import Derived.Test.YtpcmbchibhcdiaaDoorVx18
import Derived.KernelRfl
namespace Go.RX
open Go
theorem br_t {b : Bool} {p q : Prop} (h : b = true) : br b p q = p := by rw [h]; rfl
theorem br_f {b : Bool} {p q : Prop} (h : b = false) : br b p q = q := by rw [h]; rfl
theorem grd_t {b : Bool} {p : Prop} (h : b = true) (hp : p) : grd b p := grd_iff.mpr ⟨h, hp⟩
theorem brI {b : Bool} {p q : Prop} (h1 : b = true → p) (h2 : b = false → q) : br b p q := br_iff.mpr ⟨h1, h2⟩
theorem ile_t {a b : Int} (h : a ≤ b) : ile a b = true := by rw [ile_eq]; exact decide_eq_true h
theorem ile_f {a b : Int} (h : ¬ a ≤ b) : ile a b = false := by rw [ile_eq]; exact decide_eq_false h
theorem ilt_t {a b : Int} (h : a < b) : ilt a b = true := by rw [ilt_eq]; exact decide_eq_true h
theorem ilt_f {a b : Int} (h : ¬ a < b) : ilt a b = false := by rw [ilt_eq]; exact decide_eq_false h
theorem ieq_t {a b : Int} (h : a = b) : ieq a b = true := decide_eq_true h
theorem ieq_f {a b : Int} (h : ¬ a = b) : ieq a b = false := decide_eq_false h
theorem ine_t {a b : Int} (h : ¬ a = b) : ine a b = true := by simp [ine, h]
theorem ine_f {a b : Int} (h : a = b) : ine a b = false := by simp [ine, h]
theorem ile_i {a b : Int} : ile a b = true ↔ a ≤ b := by rw [ile_eq]; exact decide_eq_true_iff
theorem ilt_i {a b : Int} : ilt a b = true ↔ a < b := by rw [ilt_eq]; exact decide_eq_true_iff
theorem ieq_i {a b : Int} : ieq a b = true ↔ a = b := decide_eq_true_iff
theorem ile_n {a b : Int} : ile a b = false ↔ ¬ a ≤ b := by rw [ile_eq]; exact decide_eq_false_iff_not
theorem ilt_n {a b : Int} : ilt a b = false ↔ ¬ a < b := by rw [ilt_eq]; exact decide_eq_false_iff_not
theorem ieq_n {a b : Int} : ieq a b = false ↔ ¬ a = b := decide_eq_false_iff_not
theorem ine_i {a b : Int} : ine a b = true ↔ ¬ a = b := by simp [ine]
theorem ine_n {a b : Int} : ine a b = false ↔ a = b := by simp [ine]
theorem idx_t {i n : Int} (h1 : 0 ≤ i) (h2 : i < n) : idx i n = true := by simp [idx_eq, h1, h2]
theorem inn_t {lo hi n : Int} (h1 : 0 ≤ lo) (h2 : lo ≤ hi) (h3 : hi ≤ n) : inn lo hi n = true := by simp [inn_eq, h1, h2, h3]
theorem bnot_t {b : Bool} (h : b = false) : bnot b = true := by rw [h]; rfl
theorem bnot_f {b : Bool} (h : b = true) : bnot b = false := by rw [h]; rfl
theorem fitsS_t {n : Int} (h : n ≤ 9223372036854775807) : fitsS n = true := by rw [fitsS_eq]; exact decide_eq_true h
theorem fitsL_t {n : Int} (h : n ≤ 68719476736) : fitsL n = true := by rw [fitsL_eq]; exact decide_eq_true h
theorem mkOk_t {n : Int} (h1 : 0 ≤ n) (h2 : n ≤ 68719476736) : mkOk n = true := by simp [mkOk_eq, h1, h2]
theorem slen_nn (s : ByteArray) : 0 ≤ slen s := Int.natCast_nonneg _
theorem llen_nn {α : Type} (xs : List α) : 0 ≤ llen xs := Int.natCast_nonneg _
theorem iconv64 {x : Int} (h1 : -9223372036854775808 ≤ x) (h2 : x ≤ 9223372036854775807) : iconv .i64 x = x := wrap64 h1 h2
theorem iconvu8 {x : Int} (h1 : 0 ≤ x) (h2 : x ≤ 255) : iconv .u8 x = x := IntWalk.u8_in x ⟨h1, h2⟩
theorem bytes_eq {s t : ByteArray} : s.toList = t.toList ↔ s = t := by
  constructor
  · intro h
    have : s.data.toList = t.data.toList := by simpa [ByteArray.toList_eq] using h
    cases s; cases t; simpa using Array.toList_inj.mp this
  · rintro rfl; rfl
theorem sne_i {s t : ByteArray} (h : s = t) : sne s t = false := by simp [sne, h]
theorem seq_i {s t : ByteArray} : seq s t = true ↔ s = t := by simp [seq, bytes_eq]
end Go.RX

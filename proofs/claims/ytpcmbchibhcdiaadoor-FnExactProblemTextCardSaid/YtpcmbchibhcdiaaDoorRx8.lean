/- RX, part 8: boxes, zero values, literals. -/
import Derived.Test.YtpcmbchibhcdiaaDoorRx7
namespace Go.RX
open Go

def boxCells (st : St) : EV → Option (List EV)
  | .agg ds => some (ds.map .d)
  | .d x => some [.d x]
  | .nil sz => some [.nil sz]
  | .rptr cs => some [.rptr cs]
  | .own n o l => if (st.o n).isSome then some [.own n o l] else none
  | .ptr n r f => if (st.o n).isSome then some [.ptr n r f] else none
  | _ => none

def cellsOf : EV → Option (List D)
  | .agg ds => some ds
  | .d x => some [x]
  | .nil sz => some [.sl sz []]
  | _ => none

theorem Rd.one {w : World} {S : Nat → Prop} {v : Value} {x : D} (h : Rd w S v x) : v.oneCell' = true := by cases h <;> first | assumption | rfl
theorem cells_one {v : Value} (h : v.oneCell' = true) : v.cells = #[v] := by cases v <;> first | rfl | simp [Value.oneCell'] at h

theorem RdL.evrs {c : Cx} : ∀ {ds : List D} {vs : List Value}, RdL c.w c.S ds vs → EVRs c (ds.map .d) vs
  | [], [], _ => by simp [EVRs]
  | d :: ds, v :: vs, h => by simp only [List.map_cons, EVRs, EVR]; exact ⟨h.1, h.2.evrs⟩
  | [], _ :: _, h => h.elim
  | _ :: _, [], h => h.elim
theorem RdL.length {w : World} {S : Nat → Prop} : ∀ {ds : List D} {vs : List Value}, RdL w S ds vs → ds.length = vs.length
  | [], [], _ => rfl
  | d :: ds, v :: vs, h => by simp [RdL.length h.2]
  | [], _ :: _, h => h.elim
  | _ :: _, [], h => h.elim
theorem RdL.get {w : World} {S : Nat → Prop} : ∀ {ds : List D} {vs : List Value} {j : Nat} {x : D}, RdL w S ds vs → ds[j]? = some x → ∃ v, vs[j]? = some v ∧ Rd w S v x
  | [], [], _, _, _, h => by simp at h
  | d :: ds, v :: vs, 0, x, h, hx => by simp at hx; subst hx; exact ⟨v, by simp, h.1⟩
  | d :: ds, v :: vs, j + 1, x, h, hx => by simpa using RdL.get h.2 (by simpa using hx)
  | [], _ :: _, _, _, h, _ => h.elim
  | _ :: _, [], _, _, h, _ => h.elim
theorem RdL.one {w : World} {S : Nat → Prop} : ∀ {ds : List D} {vs : List Value}, RdL w S ds vs → ∀ v ∈ vs, v.oneCell' = true
  | [], [], _, _, h => by simp at h
  | d :: ds, v :: vs, h, u, hu => by
    simp at hu
    rcases hu with rfl | hu
    · exact h.1.one
    · exact RdL.one h.2 u hu
  | [], _ :: _, h, _, _ => h.elim
  | _ :: _, [], h, _, _ => h.elim

theorem own_one {c : Cx} {n off len : Nat} {v : Value} (hn : (c.o n).isSome = true) (h : EVR c (.own n off len) v) : ∃ a l k, v = .slice a l k := by
  simp only [EVR] at h
  obtain ⟨ob, hob⟩ := Option.isSome_iff_exists.mp hn
  obtain ⟨sz, rows, rfl, _, hm⟩ := h.2 ob hob
  split at hm
  · obtain ⟨a, rfl, _, _⟩ := hm; exact ⟨_, _, _, rfl⟩
  · rcases hm with ⟨cap, k, rfl, _⟩ | ⟨_, a, rfl⟩ <;> exact ⟨_, _, _, rfl⟩
theorem ptr_one {c : Cx} {n row fld : Nat} {v : Value} (hn : (c.o n).isSome = true) (h : EVR c (.ptr n row fld) v) : ∃ a, v = .pointer (some a) := by
  simp only [EVR] at h
  obtain ⟨ob, hob⟩ := Option.isSome_iff_exists.mp hn
  obtain ⟨b, base, _, rfl⟩ := h.2 ob hob
  exact ⟨_, rfl⟩

theorem boxCells_rel {c : Cx} {st : St} (hst : st.o = c.o) {e : EV} {v : Value} {es : List EV} (h : EVR c e v) (hb : boxCells st e = some es) :
    EVRs c es v.cells.toList ∧ ∀ u ∈ v.cells.toList, u.oneCell' = true := by
  unfold boxCells at hb
  split at hb
  · simp at hb; subst hb
    simp only [EVR] at h
    obtain ⟨vs, rfl, h⟩ := h
    exact ⟨by simpa [Value.cells] using h.evrs, by simpa [Value.cells] using h.one⟩
  · simp at hb; subst hb
    simp only [EVR] at h
    rw [cells_one h.one]
    exact ⟨by simpa [EVRs, EVR] using h, by simpa using h.one⟩
  · simp at hb; subst hb
    simp only [EVR] at h
    obtain ⟨a, rfl⟩ := h
    exact ⟨by simp [Value.cells, EVRs, EVR], by simp [Value.cells, Value.oneCell']⟩
  · simp at hb; subst hb
    have h' := h
    simp only [EVR] at h
    obtain ⟨b, off, rfl, _⟩ := h
    exact ⟨by simp only [Value.cells, EVRs]; exact ⟨h', trivial⟩, by simp [Value.cells, Value.oneCell']⟩
  · split at hb
    · rename_i hn
      simp at hb; subst hb
      obtain ⟨a, l, k, rfl⟩ := own_one (by rw [← hst]; exact hn) h
      exact ⟨by simp only [Value.cells, EVRs]; exact ⟨h, trivial⟩, by simp [Value.cells, Value.oneCell']⟩
    · simp at hb
  · split at hb
    · rename_i hn
      simp at hb; subst hb
      obtain ⟨a, rfl⟩ := ptr_one (by rw [← hst]; exact hn) h
      exact ⟨by simp only [Value.cells, EVRs]; exact ⟨h, trivial⟩, by simp [Value.cells, Value.oneCell']⟩
    · simp at hb
  · simp at hb

theorem cellsOf_rel {c : Cx} {e : EV} {v : Value} {ds : List D} (h : EVR c e v) (hb : cellsOf e = some ds) : RdL c.w c.S ds v.cells.toList := by
  unfold cellsOf at hb
  split at hb <;> simp at hb
  · subst hb
    simp only [EVR] at h
    obtain ⟨vs, rfl, h⟩ := h
    simpa [Value.cells] using h
  · subst hb
    simp only [EVR] at h
    rw [cells_one h.one]
    exact ⟨h, trivial⟩
  · subst hb
    simp only [EVR] at h
    obtain ⟨a, rfl⟩ := h
    exact ⟨.nil _ _ _, trivial⟩

/-! ### zero values -/
def zeroE (ti : TI) (t : TypeId) : Option EV :=
  match ti t with
  | some (.int k) => some (.d (.im (.int k 0)))
  | some .bool => some (.d (.im (.bool false)))
  | some .str => some (.d (.im (.string ⟨#[]⟩)))
  | some (.sl e) => some (.nil (szT ti e))
  | _ => none
def zeroEs (ti : TI) : List TypeId → Option (List EV)
  | [] => some []
  | f :: fs => match zeroE ti f, zeroEs ti fs with | some e, some es => some (e :: es) | _, _ => none
def zeroBox (ti : TI) (t : TypeId) : Option (List EV) :=
  match ti t with
  | some (.st fs) => zeroEs ti fs
  | _ => match zeroE ti t with | some e => some [e] | none => none

theorem zeroIs_rel {c : Cx} {ti : TI} {t : TypeId} {k : TK} {v : Value} {e : EV} (hk : ti t = some k) (hz : zeroIs k v = true) (he : zeroE ti t = some e) : EVR c e v ∧ v.oneCell' = true := by
  unfold zeroE at he
  rw [hk] at he
  cases k <;> simp at he <;> subst he <;> cases v <;> simp [zeroIs] at hz
  · obtain ⟨rfl, rfl⟩ := hz; exact ⟨evr_mk rfl, rfl⟩
  · subst hz; exact ⟨evr_mk rfl, rfl⟩
  · rename_i s
    have : s = ⟨#[]⟩ := hz
    subst this
    exact ⟨evr_mk rfl, rfl⟩
  · rename_i a l cp
    cases a <;> cases l <;> cases cp <;> simp at hz
    exact ⟨by simp [EVR], rfl⟩

theorem zerosAre_rel {c : Cx} {ti : TI} : ∀ {fs : List TypeId} {zs : List Value} {es : List EV}, zerosAre ti fs zs = true → zeroEs ti fs = some es →
    EVRs c es zs ∧ ∀ u ∈ zs, u.oneCell' = true
  | [], [], es, _, h => by simp [zeroEs] at h; subst h; simp [EVRs]
  | f :: fs, z :: zs, es, hz, h => by
    simp only [zerosAre, Bool.and_eq_true] at hz
    simp only [zeroEs] at h
    split at h
    · rename_i e es' he hes
      simp at h; subst h
      cases hk : ti f with
      | none => rw [hk] at hz; simp at hz
      | some k =>
        rw [hk] at hz
        have h1 := zeroIs_rel (c := c) hk hz.1 he
        have h2 := zerosAre_rel (c := c) hz.2 hes
        simp only [EVRs]
        refine ⟨⟨h1.1, h2.1⟩, fun u hu => ?_⟩
        simp at hu
        rcases hu with rfl | hu
        · exact h1.2
        · exact h2.2 u hu
    · simp at h
  | [], _ :: _, _, hz, _ => by simp [zerosAre] at hz
  | _ :: _, [], _, hz, _ => by simp [zerosAre] at hz

theorem zero_scalar {P : Program} {ti : TI} (H : TIok P ti) {t : TypeId} {e : EV} (he : zeroE ti t = some e) :
    ∃ i z, P.info? t = some i ∧ i.zero = some z ∧ (∀ c, EVR c e z) ∧ z.oneCell' = true := by
  cases hk : ti t with
  | none => simp [zeroE, hk] at he
  | some k =>
    have h0 := H.ok t k hk
    unfold tkOk at h0
    split at h0
    · rename_i u i hu hi
      cases hz : i.zero with
      | none => cases k <;> first | (simp [zeroE, hk] at he; done) | simp [hz] at h0
      | some z =>
        have hzi : zeroIs k z = true := by
          cases k <;> first | (simp [zeroE, hk] at he; done) | (simp only [hz, Bool.and_eq_true] at h0; first | exact h0.2 | exact h0.1.1.2)
        exact ⟨i, z, hi, hz, fun c => (zeroIs_rel hk hzi he).1, (zeroIs_rel (c := ⟨default, fun _ => True, fun _ => none, fun _ => none, 0⟩) hk hzi he).2⟩
    · simp at h0

/-- the zero value of a variable -/
theorem zeroBox_run {P : Program} {ti : TI} (H : TIok P ti) {t : TypeId} {es : List EV} (he : zeroBox ti t = some es) :
    ∃ i z, P.info? t = some i ∧ i.zero = some z ∧ (∀ c, EVRs c es z.cells.toList) ∧ ∀ u ∈ z.cells.toList, u.oneCell' = true := by
  unfold zeroBox at he
  split at he
  · rename_i fs hk
    obtain ⟨fields, i, _, _, hi, _, zs, hz, hzs⟩ := desc_st H hk
    exact ⟨i, _, hi, hz, fun c => by simpa [Value.cells] using (zerosAre_rel (c := c) hzs he).1,
      by simpa [Value.cells] using (zerosAre_rel (c := ⟨default, fun _ => True, fun _ => none, fun _ => none, 0⟩) hzs he).2⟩
  · split at he
    · rename_i e hz
      simp at he; subst he
      obtain ⟨i, z, h1, h2, h3, h4⟩ := zero_scalar H hz
      refine ⟨i, z, h1, h2, fun c => ?_, ?_⟩
      · rw [cells_one h4]; simp only [EVRs]; exact ⟨h3 c, trivial⟩
      · rw [cells_one h4]; simpa using h4
    · simp at he
end Go.RX

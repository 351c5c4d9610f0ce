/- RX, part 4: loads, slices, and the step that only reads as a whole. -/
import Derived.Test.YtpcmbchibhcdiaaDoorRx3
namespace Go.RX
open Go

theorem addr_add (b o k : Nat) : (⟨b, o, none⟩ : Addr).add k = ⟨b, o + k, none⟩ := by
  unfold Addr.add; split
  · rename_i h; simp [h]
  · rfl

theorem RdAt.list {w : World} {S : Nat → Prop} {b : Nat} : ∀ {cells : List D} {off : Nat}, RdAt w S b off cells →
    ∃ vs : List Value, vs.length = cells.length ∧ (∀ (j : Nat) v, vs[j]? = some v → w.cell? ⟨b, off + j, none⟩ = some v) ∧ RdL w S cells vs
  | [], off, _ => ⟨[], rfl, by simp, trivial⟩
  | x :: xs, off, h => by
    obtain ⟨u, hu, hr⟩ := h 0 x (by simp)
    obtain ⟨vs, h1, h2, h3⟩ := RdAt.list (cells := xs) (off := off + 1) (fun j y hy => by
      obtain ⟨u, a, b⟩ := h (j + 1) y (by simpa using hy)
      exact ⟨u, by rw [show off + 1 + j = off + (j + 1) by omega]; exact a, b⟩)
    refine ⟨u :: vs, by simp [h1], ?_, hr, h3⟩
    intro j v hv
    cases j with
    | zero => simp at hv; subst hv; exact hu
    | succ j => rw [show off + (j + 1) = off + 1 + j by omega]; exact h2 j v (by simpa using hv)

theorem RdAt.drop {w : World} {S : Nat → Prop} {b off : Nat} {cells : List D} (h : RdAt w S b off cells) (k : Nat) : RdAt w S b (off + k) (cells.drop k) := by
  intro j x hx
  rw [List.getElem?_drop] at hx
  obtain ⟨u, h1, h2⟩ := h (k + j) x hx
  exact ⟨u, by rw [Nat.add_assoc]; exact h1, h2⟩
theorem RdAt.take {w : World} {S : Nat → Prop} {b off : Nat} {cells : List D} (h : RdAt w S b off cells) (k : Nat) : RdAt w S b off (cells.take k) := by
  intro j x hx
  rw [List.getElem?_take] at hx
  split at hx
  · exact h j x hx
  · simp at hx

theorem cellsD_rel {c : Cx} : ∀ {es : List EV} {vs : List Value} {ds : List D}, EVRs c es vs → cellsD es = some ds → RdL c.w c.S ds vs
  | [], [], _, _, h => by simp [cellsD] at h; subst h; trivial
  | e :: es, v :: vs, ds, hv, h => by
    simp only [EVRs] at hv
    simp only [cellsD] at h
    split at h
    · rename_i x xs hx hxs
      simp at h; subst h
      refine ⟨?_, cellsD_rel hv.2 hxs⟩
      have h1 := hv.1
      cases e <;> simp [cellD] at hx
      · subst hx; simpa [EVR] using h1
      · subst hx; simp only [EVR] at h1; obtain ⟨a, rfl⟩ := h1; exact .nil a 0 _
    · simp at h
  | [], _ :: _, _, hv, _ => by simp [EVRs] at hv
  | _ :: _, [], _, hv, _ => by simp [EVRs] at hv

theorem EVRs.drop {c : Cx} : ∀ {es : List EV} {vs : List Value} (k : Nat), EVRs c es vs → EVRs c (es.drop k) (vs.drop k)
  | _, _, 0, h => h
  | [], [], _ + 1, h => h
  | e :: es, v :: vs, k + 1, h => by simp only [EVRs] at h; exact EVRs.drop k h.2
  | [], _ :: _, _ + 1, h => by simp [EVRs] at h
  | _ :: _, [], _ + 1, h => by simp [EVRs] at h
theorem EVRs.take {c : Cx} : ∀ {es : List EV} {vs : List Value} (k : Nat), EVRs c es vs → EVRs c (es.take k) (vs.take k)
  | _, _, 0, _ => by simp [EVRs]
  | [], [], _ + 1, _ => by simp [EVRs]
  | e :: es, v :: vs, k + 1, h => by simp only [EVRs] at h; simp only [List.take_succ_cons, EVRs]; exact ⟨h.1, EVRs.take k h.2⟩
  | [], _ :: _, _ + 1, h => by simp [EVRs] at h
  | _ :: _, [], _ + 1, h => by simp [EVRs] at h

section
variable {P : Program} {ti : TI} (H : TIok P ti) {c : Cx}
include H

theorem isSt_some {t : TypeId} {b : Bool} (h : isSt ti t = some b) : (∀ w, (isAgg t).run P w = .ok b w) ∧ ∃ i, P.info? t = some i ∧ i.size = szT ti t := by
  unfold isSt at h
  cases hk : ti t with
  | none => simp [hk] at h
  | some k =>
    rw [hk] at h
    cases k <;> simp at h <;> subst h <;> exact ⟨fun w => isAgg_run H hk w, size_of H hk⟩

/-- a load, out of what the cells read as -/
theorem load_scalar {t : TypeId} (h : isSt ti t = some false) {b off : Nat} {v : Value} (hc : c.w.cell? ⟨b, off, none⟩ = some v) :
    ∀ w', Keeps c.w w' → (Instr.loadAt t (.pointer (some ⟨b, off, none⟩))).run P w' = .ok v w' := by
  intro w' hw
  have := (isSt_some H h).1 w'
  simp [Instr.loadAt, Instr.sureAddr, loadVar, this, hw.cell hc]

theorem load_agg {t : TypeId} (h : isSt ti t = some true) {b off : Nat} {vs : List Value} (hl : vs.length = szT ti t)
    (hc : ∀ (j : Nat) v, vs[j]? = some v → c.w.cell? ⟨b, off + j, none⟩ = some v) :
    ∀ w', Keeps c.w w' → (Instr.loadAt t (.pointer (some ⟨b, off, none⟩))).run P w' = .ok (.agg vs.toArray) w' := by
  intro w' hw
  obtain ⟨h1, i, hi, hs⟩ := isSt_some H h
  have h2 := run_loadCells_list (P := P) w' ⟨b, off, none⟩ vs (fun j v hv => by rw [addr_add]; exact hw.cell (hc j v hv))
  rw [hl] at h2
  simp [Instr.loadAt, Instr.sureAddr, loadVar, h1 w', sizeOf, typeInfo, hi, hs, h2]

theorem pload_sound {st : St} (hst : st.o = c.o) (ho : ∀ n ob, c.o n = some ob → ObR c n ob) {t : TypeId} {a : EV} {va : Value} {K : EV → Prop}
    (h : pload ti st t a K) (ha : EVR c a va) : Reads P c (Instr.loadAt t va) K := by
  unfold pload at h
  split at h
  · rename_i n row fld
    simp only [EVR] at ha
    obtain ⟨hn, ha⟩ := ha
    rw [hst] at h
    split at h
    · rename_i cells hob hs
      obtain ⟨rfl, e, he, hk⟩ := h
      obtain ⟨b, base, hβ, rfl⟩ := ha _ hob
      obtain ⟨b', cs, T, hβ', hh, hr⟩ := ho n _ hob
      rw [hβ] at hβ'; simp at hβ'; obtain ⟨rfl, rfl⟩ := hβ'
      obtain ⟨v, hv, hev⟩ := EVRs.get' hr he
      refine ⟨e, v, hk, hev, ?_⟩
      simp only [Obj.sz]
      exact load_scalar H hs (by simp [World.cell?, hh]; simpa using hv)
    · rename_i cells hob hs
      obtain ⟨rfl, hle, ds, hds, hk⟩ := h
      obtain ⟨b, base, hβ, rfl⟩ := ha _ hob
      obtain ⟨b', cs, T, hβ', hh, hr⟩ := ho n _ hob
      rw [hβ] at hβ'; simp at hβ'; obtain ⟨rfl, rfl⟩ := hβ'
      have hlen := hr.length
      have hr2 := (hr.drop fld).take (szT ti t)
      refine ⟨_, .agg ((cs.toList.drop fld).take (szT ti t)).toArray, hk, ?_, ?_⟩
      · simp only [EVR]; exact ⟨_, rfl, cellsD_rel hr2 hds⟩
      · simp only [Obj.sz]
        refine load_agg H hs (by simp at hlen ⊢; omega) ?_
        intro j v hv
        rw [List.getElem?_take] at hv
        split at hv
        · rw [List.getElem?_drop] at hv
          simp [World.cell?, hh]; simpa using hv
        · simp at hv
    · rename_i sz rows hob hs
      obtain ⟨r, hr, x, hx, hk⟩ := h
      obtain ⟨b, base, hβ, rfl⟩ := ha _ hob
      obtain ⟨hz, hm⟩ := ho n _ hob
      rw [hβ] at hm
      obtain ⟨cs, T, hh, hle, hcell⟩ := hm
      obtain ⟨v, hv, hrd⟩ := hcell _ _ r x hr hx
      refine ⟨_, v, hk, by simpa [EVR] using hrd, ?_⟩
      simp only [Obj.sz]
      exact load_scalar H hs (by simp [World.cell?, hh]; simpa using hv)
    · rename_i sz rows hob hs
      obtain ⟨r, hr, hfl, hk⟩ := h
      obtain ⟨b, base, hβ, rfl⟩ := ha _ hob
      obtain ⟨hz, hm⟩ := ho n _ hob
      rw [hβ] at hm
      obtain ⟨cs, T, hh, hle, hcell⟩ := hm
      have hat : RdAt c.w c.S b (base + row * sz) r := by
        intro j x hx
        obtain ⟨v, hv, hrd⟩ := hcell _ _ r x hr hx
        exact ⟨v, by simp [World.cell?, hh]; simpa using hv, hrd⟩
      obtain ⟨vs, h1, h2, h3⟩ := ((hat.drop fld).take (szT ti t)).list
      refine ⟨_, .agg vs.toArray, hk, by simp only [EVR]; exact ⟨vs, rfl, h3⟩, ?_⟩
      simp only [Obj.sz]
      exact load_agg H hs (by simp at h1; omega) h2
    · exact h.elim
  · rename_i cells
    simp only [EVR] at ha
    obtain ⟨b, off, rfl, hS, hat⟩ := ha
    split at h
    · rename_i hs
      obtain ⟨x, hx, hk⟩ := h
      obtain ⟨u, hu, hr⟩ := hat 0 x hx
      exact ⟨_, u, hk, by simpa [EVR] using hr, load_scalar H hs (by simpa using hu)⟩
    · rename_i hs
      obtain ⟨hle, hk⟩ := h
      obtain ⟨vs, h1, h2, h3⟩ := (hat.take (szT ti t)).list
      exact ⟨_, .agg vs.toArray, hk, by simp only [EVR]; exact ⟨vs, rfl, h3⟩, load_agg H hs (by simp at h1; omega) h2⟩
    · exact h.elim
  · exact h.elim
end
end Go.RX

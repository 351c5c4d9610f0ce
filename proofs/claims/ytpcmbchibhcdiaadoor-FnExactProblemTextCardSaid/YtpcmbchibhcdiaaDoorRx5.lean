/- RX, part 5: slice expressions, the struct values, and the step that only reads as a whole. -/
import Derived.Test.YtpcmbchibhcdiaaDoorRx4
namespace Go.RX
open Go

section
variable {P : Program} {ti : TI} {G : Nat → Prop} {w0 : World} {io : List (Nat × Nat)} {st : St} {a : Act} {w : World} {β : Beta}

theorem pbound_sound (h : SimB G w0 io st a w β) {x : Option Operand} {d : Int} {K : Int → Prop} (hb : pbound st x d K) :
    ∃ i, K i ∧ ((x = none ∧ i = d) ∨ ∃ y k, x = some y ∧ a.eval y = .int k i) := by
  unfold pbound at hb
  split at hb
  · exact ⟨d, hb, .inl ⟨rfl, rfl⟩⟩
  · rename_i y
    split at hb
    · rename_i k i he
      have hr := ev_rel h y
      rw [he] at hr
      exact ⟨i, hb, .inr ⟨y, k, rfl, evr_im hr⟩⟩
    · exact hb.elim

theorem sliceBounds_run (isSlice : Bool) (len cap : Nat) {lo hi : Option Operand} {l h : Int}
    (hh : (hi = none ∧ h = (len : Int)) ∨ ∃ y k, hi = some y ∧ a.eval y = .int k h) (hl : (lo = none ∧ l = 0) ∨ ∃ y k, lo = some y ∧ a.eval y = .int k l)
    (h0 : 0 ≤ l) (h1 : l ≤ h) (h2 : h ≤ cap) :
    (Instr.sliceBounds isSlice len cap (lo.map a.eval) (hi.map a.eval) none).run P w = .ok (l.toNat, h.toNat, cap) w := by
  have e1 : 0 ≤ h := by omega
  have e2 : l ≤ (h.toNat : Int) := by omega
  rcases hh with ⟨rfl, rfl⟩ | ⟨y, k, rfl, hy⟩ <;> rcases hl with ⟨rfl, rfl⟩ | ⟨z, k', rfl, hz⟩ <;>
    simp_all [Instr.sliceBounds, Instr.sliceBound, asIntOf]

variable (H : TIok P ti)
include H

theorem pslice_sound (h : SimB G w0 io st a w β) {t : TypeId} {x lo hi : _} {K : EV → Prop} (hp : pslice ti t st (ev st x) lo hi K)
    (ht : (ti t = some .str ∧ ∃ s, ev st x = .d (.im (.string s))) ∨ ((∃ e, ti t = some (.sl e)) ∧ ∀ v, ev st x ≠ .d (.im v))) :
    Reads P (cxOf G w β st) (Instr.sliceAt t (a.eval x) (lo.map a.eval) (hi.map a.eval) none) K := by
  have hx := ev_rel h x
  unfold pslice at hp
  split at hp
  · rename_i s he
    rcases ht with ⟨ht, _⟩ | ⟨_, hn⟩
    case inr => exact absurd he (hn _)
    rw [he] at hx
    rw [evr_im hx]
    obtain ⟨hi', hp, hh⟩ := pbound_sound h hp
    obtain ⟨lo', hp, hl⟩ := pbound_sound h hp
    obtain ⟨h0, h1, h2, hk⟩ := hp
    have := fun w' : World => sliceBounds_run (P := P) (w := w') false s.size s.size hh hl h0 h1 h2
    exact reads_im hk rfl (by simp [Instr.sliceAt, underlying, desc_str H ht, Instr.slice, cxOf, this])
  · rename_i sz rows he
    rcases ht with ⟨_, s, hs⟩ | ⟨⟨e, ht⟩, _⟩
    · rw [he] at hs; simp at hs
    rw [he] at hx
    obtain ⟨hi', hp, hh⟩ := pbound_sound h hp
    obtain ⟨lo', hp, hl⟩ := pbound_sound h hp
    obtain ⟨hsz, h0, h1, h2, hk⟩ := hp
    obtain ⟨hd, j, hj, hjs, _, _, _, _, _⟩ := desc_sl H ht
    have hes : elemSz ti t = szT ti e := by simp [elemSz, ht]
    simp only [EVR] at hx
    generalize a.eval x = va at hx
    cases hx with
    | nil ad cp _ =>
      simp at h2
      have e1 : lo' = 0 := by omega
      have e2 : hi' = 0 := by omega
      subst e1; subst e2
      have := fun w' : World => sliceBounds_run (P := P) (w := w') true 0 cp hh hl (by omega) (by omega) (by omega)
      refine ⟨_, .slice (if cp = 0 then ad else ad.map fun z => z.add 0) 0 cp, hk, ?_, ?_⟩
      · simp only [EVR]; exact .nil _ _ _
      · simp [Instr.sliceAt, underlying, hd, Instr.slice, cxOf, this, sizeOf, typeInfo, hj]
    | sl b off cap _ _ f hS hc hz hv hrd =>
      have := fun w' : World => sliceBounds_run (P := P) (w := w') true rows.length cap hh hl h0 h1 (by omega)
      refine ⟨_, .slice (if cap = lo'.toNat then some ⟨b, off, none⟩ else some ⟨b, off + lo'.toNat * sz, none⟩) (hi'.toNat - lo'.toNat) (cap - lo'.toNat), hk, ?_, ?_⟩
      · simp only [EVR]
        by_cases hcl : cap = lo'.toNat
        · have : (rows.take hi'.toNat).drop lo'.toNat = [] := by apply List.drop_eq_nil_of_le; simp; omega
          rw [this, show hi'.toNat - lo'.toNat = 0 by omega]
          exact .nil _ _ _
        · rw [if_neg hcl]
          have hlen : hi'.toNat - lo'.toNat = ((rows.take hi'.toNat).drop lo'.toNat).length := by simp; omega
          rw [hlen]
          have key : ∀ (i : Nat) r, ((rows.take hi'.toNat).drop lo'.toNat)[i]? = some r → rows[lo'.toNat + i]? = some r := by
            intro i r hi
            rw [List.getElem?_drop, List.getElem?_take] at hi
            split at hi
            · exact hi
            · simp at hi
          refine .sl b _ _ sz _ (fun i j => f (lo'.toNat + i) j) hS (by simp; omega) ?_ ?_ ?_
          · intro r hr
            exact hz r (List.mem_of_mem_take (List.mem_of_mem_drop hr))
          · intro i j r d hr hd
            have := hv _ j r d (key i r hr) hd
            rw [show off + lo'.toNat * sz + i * sz + j = off + (lo'.toNat + i) * sz + j by rw [Nat.add_mul]; omega]
            exact this
          · intro i j r d hr hd
            exact hrd _ j r d (key i r hr) hd
      · simp [Instr.sliceAt, underlying, hd, Instr.slice, cxOf, this, sizeOf, typeInfo, hj, hjs, ← hes, ← hsz, addr_add]
  · rename_i n off len he
    rcases ht with ⟨_, s, hs⟩ | ⟨⟨e, ht⟩, _⟩
    · rw [he] at hs; simp at hs
    rw [he] at hx
    split at hp
    · rename_i sz rows hob
      obtain ⟨hi', hp, hh⟩ := pbound_sound h hp
      obtain ⟨lo', hp, hl⟩ := pbound_sound h hp
      obtain ⟨hsz, h0, h1, h2, hk⟩ := hp
      obtain ⟨hd, j, hj, hjs, _, _, _, _, _⟩ := desc_sl H ht
      have hes : elemSz ti t = szT ti e := by simp [elemSz, ht]
      simp only [EVR] at hx
      obtain ⟨hn, hx⟩ := hx
      obtain ⟨sz', rows', heq, hlen, hm⟩ := hx _ hob
      simp only [Obj.arr.injEq] at heq
      obtain ⟨rfl, rfl⟩ := heq
      have small : ∀ ad, a.eval x = .slice ad 0 0 → len = 0 → (β n = none → off = 0) → Reads P (cxOf G w β st) (Instr.sliceAt t (a.eval x) (lo.map a.eval) (hi.map a.eval) none) K := by
        intro ad hv hl0 hoff
        have e1 : lo' = 0 := by omega
        have e2 : hi' = 0 := by omega
        subst e1; subst e2; subst hl0
        have := fun w' : World => sliceBounds_run (P := P) (w := w') true 0 0 hh hl (by omega) (by omega) (by omega)
        refine ⟨_, .slice ad 0 0, hk, ?_, ?_⟩
        · simp only [EVR, Int.toNat_zero, Nat.add_zero, Nat.sub_self]
          refine ⟨hn, fun ob hob' => ?_⟩
          rw [show (cxOf G w β st).o n = st.o n from rfl, hob] at hob'
          simp only [Option.some.injEq] at hob'
          subst hob'
          refine ⟨sz, rows, rfl, by omega, ?_⟩
          cases hb : (cxOf G w β st).β n with
          | none => exact ⟨ad, rfl, hoff hb, by simp⟩
          | some p => exact .inr ⟨by simp, ad, rfl⟩
        · rw [hv]; simp [Instr.sliceAt, underlying, hd, Instr.slice, cxOf, this, sizeOf, typeInfo, hj]
      cases hb : (cxOf G w β st).β n with
      | none =>
        rw [hb] at hm
        obtain ⟨ad, hv, ho, hl0⟩ := hm
        exact small ad hv hl0 (fun _ => ho)
      | some p =>
        obtain ⟨b, base⟩ := p
        rw [hb] at hm
        rcases hm with ⟨cap, k, hv, hc, hblk, hle⟩ | ⟨hl0, ad, hv⟩
        case inr => exact small ad hv hl0 (fun hno => by rw [show β n = (cxOf G w β st).β n from rfl, hb] at hno; simp at hno)
        have := fun w' : World => sliceBounds_run (P := P) (w := w') true len cap hh hl h0 h1 (by omega)
        refine ⟨_, .slice (if cap = lo'.toNat then some ⟨b, base + off * sz, none⟩ else some ⟨b, base + off * sz + lo'.toNat * sz, none⟩) (hi'.toNat - lo'.toNat) (cap - lo'.toNat), hk, ?_, ?_⟩
        · simp only [EVR]
          refine ⟨hn, fun ob hob' => ?_⟩
          rw [show (cxOf G w β st).o n = st.o n from rfl, hob] at hob'
          simp only [Option.some.injEq] at hob'
          subst hob'
          refine ⟨sz, rows, rfl, by omega, ?_⟩
          rw [hb]
          by_cases hcl : cap = lo'.toNat
          · refine .inr ⟨by omega, some ⟨b, base + off * sz, none⟩, ?_⟩
            rw [if_pos hcl, show hi'.toNat - lo'.toNat = 0 by omega, show cap - lo'.toNat = 0 by omega]
          · refine .inl ⟨cap - lo'.toNat, k, ?_, by omega, hblk, ?_⟩
            · rw [if_neg hcl, show base + off * sz + lo'.toNat * sz = base + (off + lo'.toNat) * sz by rw [Nat.add_mul]; omega]
            · rw [show off + lo'.toNat + (cap - lo'.toNat) = off + cap by omega]; exact hle
        · rw [hv]
          simp [Instr.sliceAt, underlying, hd, Instr.slice, cxOf, this, sizeOf, typeInfo, hj, hjs, ← hes, ← hsz, addr_add]
    · exact hp.elim
  · exact hp.elim
end
end Go.RX

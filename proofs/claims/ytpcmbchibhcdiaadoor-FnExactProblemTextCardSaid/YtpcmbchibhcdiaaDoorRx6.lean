/- RX, part 6: freezing an object; new objects; stores. -/
import Derived.Test.YtpcmbchibhcdiaaDoorRx5
namespace Go.RX
open Go

def frzE (n sz : Nat) (rows : List (List D)) : EV → EV
  | .own m off len => if m = n then .d (.sl sz ((rows.drop off).take len)) else .own m off len
  | e => e
def frzO (n sz : Nat) (rows : List (List D)) : Obj → Obj
  | .box cells => .box (cells.map (frzE n sz rows))
  | o => o
def frz (n : Nat) (st : St) : St :=
  match st.o n with
  | some (.arr sz rows) => { t := st.t.map (frzE n sz rows), o := fun m => if m = n then none else (st.o m).map (frzO n sz rows), nx := st.nx }
  | _ => st
def frzOf (st : St) (e : EV) : St := match e with | .own n _ _ => frz n st | _ => st

section
variable {G : Nat → Prop} {w0 : World} {io : List (Nat × Nat)} {st : St} {a : Act} {w : World} {β : Beta}

theorem rows_sub {rows : List (List D)} {off len i : Nat} {r : List D} (h : ((rows.drop off).take len)[i]? = some r) : rows[off + i]? = some r := by
  rw [List.getElem?_take] at h
  split at h
  · rw [List.getElem?_drop] at h; exact h
  · simp at h

/-- an owned slice reads as data, once its block is safe -/
theorem own_reads {c : Cx} {S : Nat → Prop} {n off len sz : Nat} {rows : List (List D)} {v : Value} (hob : c.o n = some (.arr sz rows)) (hv : EVR c (.own n off len) v)
    (ho : ObR c n (.arr sz rows)) (hS : ∀ b, c.S b → S b) (hb : ∀ b base, c.β n = some (b, base) → S b) :
    Rd c.w S v (.sl sz ((rows.drop off).take len)) := by
  simp only [EVR] at hv
  obtain ⟨_, hv⟩ := hv
  obtain ⟨sz', rows', he, hlen, hm⟩ := hv _ hob
  simp only [Obj.arr.injEq] at he
  obtain ⟨rfl, rfl⟩ := he
  obtain ⟨hz, hm'⟩ := ho
  have hsub : ((rows.drop off).take len).length = len := by simp; omega
  have empty : len = 0 → ∀ ad cp, Rd c.w S (.slice ad 0 cp) (.sl sz ((rows.drop off).take len)) := by
    intro h0 ad cp
    subst h0
    simp only [List.take_zero]
    exact .nil ad cp sz
  cases hβ : c.β n with
  | none =>
    rw [hβ] at hm
    obtain ⟨ad, rfl, _, h0⟩ := hm
    exact empty h0 _ _
  | some p =>
    obtain ⟨b, base⟩ := p
    rw [hβ] at hm hm'
    rcases hm with ⟨cap, k, rfl, hc, _, _⟩ | ⟨h0, ad, rfl⟩
    case inr => exact empty h0 _ _
    obtain ⟨cs, T, hh, hle, hcell⟩ := hm'
    conv => arg 3; rw [← hsub]
    refine .sl b _ cap sz _ (fun i j => (cs[base + (off + i) * sz + j]?).getD undef) (hb b base hβ) (by omega) ?_ ?_ ?_
    · intro r hr; exact hz r (List.mem_of_mem_drop (List.mem_of_mem_take hr))
    · intro i j r d hr hd
      obtain ⟨u, hu, _⟩ := hcell _ j r d (rows_sub hr) hd
      rw [show base + off * sz + i * sz + j = base + (off + i) * sz + j by rw [Nat.add_mul]; omega]
      simp only [World.cell?, hh, hu]
      simp
    · intro i j r d hr hd
      obtain ⟨u, hu, hrd⟩ := hcell _ j r d (rows_sub hr) hd
      simp only [hu, Option.getD_some]
      exact hrd.mono fun b hb => ⟨hS b hb, rfl⟩

theorem EVRs.map {c c' : Cx} {f : EV → EV} (hf : ∀ e v, EVR c e v → EVR c' (f e) v) : ∀ {es : List EV} {vs : List Value}, EVRs c es vs → EVRs c' (es.map f) vs
  | [], [], _ => by simp [EVRs]
  | e :: es, v :: vs, h => by simp only [EVRs] at h; simp only [List.map_cons, EVRs]; exact ⟨hf _ _ h.1, EVRs.map hf h.2⟩
  | [], _ :: _, h => by simp [EVRs] at h
  | _ :: _, [], h => by simp [EVRs] at h

theorem frz_rel (h : SimB G w0 io st a w β) (n : Nat) : SimB G w0 io (frz n st) a w β := by
  unfold frz
  split
  case h_2 => exact h
  rename_i sz rows hob
  let st' : St := { t := st.t.map (frzE n sz rows), o := fun m => if m = n then none else (st.o m).map (frzO n sz rows), nx := st.nx }
  show SimB G w0 io st' a w β
  have ho' : ∀ m ob', st'.o m = some ob' → m ≠ n ∧ ∃ ob, st.o m = some ob ∧ ob' = frzO n sz rows ob := by
    intro m ob' hm
    simp only [st'] at hm
    split at hm
    · simp at hm
    · rename_i hne
      cases hs : st.o m with
      | none => rw [hs] at hm; simp at hm
      | some ob => rw [hs] at hm; simp at hm; exact ⟨hne, ob, rfl, hm.symm⟩
  have hsafe : ∀ b, SafeOf G w β st.o b → SafeOf G w β st'.o b := by
    intro b ⟨h1, h2, hg⟩
    refine ⟨h1, fun m ob' p hm hp => ?_, hg⟩
    obtain ⟨_, ob, hob, _⟩ := ho' m ob' hm
    exact h2 m ob p hob hp
  have hfz : ∀ ob, (frzO n sz rows ob).sz = ob.sz := by intro ob; cases ob <;> rfl
  have hle : (cxOf G w β st).Le (cxOf G w β st') := by
    refine ⟨fun b hb => ⟨hsafe b hb, rfl⟩, Nat.le_refl _, ?_, ?_⟩
    · intro m ob' _ hm
      obtain ⟨_, ob, hob, rfl⟩ := ho' m ob' hm
      refine ⟨ob, hob, (hfz ob).symm, rfl, ?_⟩
      rintro sz' rows' rfl
      exact ⟨rows', rfl, Nat.le_refl _⟩
    · intro m ob' b base k _ hm hp hk; exact hk
  have hsn : ∀ b base, β n = some (b, base) → SafeOf G w β st'.o b := by
    intro b base hb
    refine ⟨(h.mine n _ b base hob hb).2, fun m ob' p hm hp => ?_, h.gset n _ (b, base) hob hb⟩
    obtain ⟨hne, ob, hob', _⟩ := ho' m ob' hm
    exact fun he => h.apart m n ob _ p _ hob' hob hp hb hne he
  have hfr : ∀ e v, EVR (cxOf G w β st) e v → EVR (cxOf G w β st') (frzE n sz rows e) v := by
    intro e v hev
    unfold frzE
    split
    · split
      · rename_i m off len hmn
        subst hmn
        simp only [EVR]
        exact own_reads (c := cxOf G w β st) hob hev (h.objs _ _ hob) hsafe (fun b base hb => hsn b base hb)
      · exact EVR.mono hle _ _ hev
    · exact EVR.mono hle _ _ hev
  refine ⟨fun m ob' p hm hp => by obtain ⟨_, ob, hob', _⟩ := ho' m ob' hm; exact h.gset m ob p hob' hp, h.gnew, h.ion, h.defers, EVRs.map hfr h.tmps, ?_, ?_, ?_, ?_, h.grown, h.keep⟩
  · intro m ob' hm
    obtain ⟨hne, ob, hob', rfl⟩ := ho' m ob' hm
    have := h.objs m ob hob'
    cases ob with
    | arr sz' rows' =>
      obtain ⟨h1, h2⟩ := this
      refine ⟨h1, ?_⟩
      show match β m with | none => _ | some (b, base) => _
      have h2' : match β m with | none => _ | some (b, base) => _ := h2
      cases hb : β m with
      | none => rw [hb] at h2'; exact h2'
      | some p =>
        obtain ⟨b, base⟩ := p
        rw [hb] at h2'
        obtain ⟨cs, T, h3, h4, h5⟩ := h2'
        refine ⟨cs, T, h3, h4, fun i j r x hr hx => ?_⟩
        obtain ⟨v, h6, h7⟩ := h5 i j r x hr hx
        exact ⟨v, h6, h7.mono fun b hb => ⟨hsafe b hb, rfl⟩⟩
    | box cells =>
      obtain ⟨b, cs, T, h1, h2, h3⟩ := this
      exact ⟨b, cs, T, h1, h2, EVRs.map hfr h3⟩
  · intro m ob' b base hm hp
    obtain ⟨_, ob, hob', _⟩ := ho' m ob' hm
    exact h.mine m ob b base hob' hp
  · intro m m' ob ob' p q hm hm' hp hq hne
    obtain ⟨_, o1, h1, _⟩ := ho' m ob hm
    obtain ⟨_, o2, h2, _⟩ := ho' m' ob' hm'
    exact h.apart m m' o1 o2 p q h1 h2 hp hq hne
  · intro m ob' hm
    obtain ⟨_, ob, hob', _⟩ := ho' m ob' hm
    exact h.names m ob hob'

theorem frzOf_rel (h : SimB G w0 io st a w β) (e : EV) : SimB G w0 io (frzOf st e) a w β := by
  unfold frzOf; split
  · exact frz_rel h _
  · exact h
end
end Go.RX

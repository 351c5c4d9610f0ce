/- RX, part 17: the soundness of a call. -/
import Derived.Test.YtpcmbchibhcdiaaDoorRx16
namespace Go.RX
open Go

theorem frzCells_rel {G : Nat → Prop} {w0 : World} {io : List (Nat × Nat)} {a : Act} {w : World} {β : Beta} : ∀ {es : List EV} {st : St}, SimB G w0 io st a w β → SimB G w0 io (frzCells st es) a w β
  | [], _, h => h
  | e :: es, st, h => frzCells_rel (es := es) (st := frzOf st e) (frzOf_rel h e)
theorem frzBox_rel {G : Nat → Prop} {w0 : World} {io : List (Nat × Nat)} {st : St} {a : Act} {w : World} {β : Beta} (h : SimB G w0 io st a w β) (e : EV) : SimB G w0 io (frzBox st e) a w β := by
  unfold frzBox; split
  · split
    · exact frzCells_rel h
    · exact h
  · exact h
theorem frzArgs_rel {G : Nat → Prop} {w0 : World} {io : List (Nat × Nat)} {a : Act} {w : World} {β : Beta} {fresh : Bool} : ∀ {es : List EV} {st : St}, SimB G w0 io st a w β → SimB G w0 io (frzArgs fresh st es) a w β
  | [], _, h => h
  | e :: es, st, h => frzArgs_rel (es := es) (st := frzBox (if fresh then st else frzOf st e) e) (frzBox_rel (by split; exact h; exact frzOf_rel h e) e)
theorem frzParts_rel {G : Nat → Prop} {w0 : World} {io : List (Nat × Nat)} {a : Act} {w : World} {β : Beta} : ∀ {ps : List (Nat × Operand)} {st : St}, SimB G w0 io st a w β → SimB G w0 io (frzParts st ps) a w β
  | [], _, h => h
  | p :: ps, st, h => frzParts_rel (ps := ps) (st := frzOf st (ev st p.2)) (frzOf_rel h (ev st p.2))

def iobOf (β : Beta) (ns : List Nat) : List Nat := ns.map fun n => ((β n).map (·.1)).getD 0

/-- what the arguments of a call may reach -/
def Reach (G : Nat → Prop) (w : World) (β : Beta) (o : Heap) (fresh : Bool) (b : Nat) : Prop :=
  SafeOf G w β o b ∨ (fresh = true ∧ ∃ n sz rows base, o n = some (.arr sz rows) ∧ β n = some (b, base))

section
variable {G : Nat → Prop} {w0 : World} {io : List (Nat × Nat)} {st : St} {a : Act} {w : World} {β : Beta} {fresh : Bool}

theorem evTs_rel (h : SimB G w0 io st a w β) (ti : TI) : ∀ {ts : List TypeId} {xs : List Operand}, ts.length = xs.length → EVRs (cxOf G w β st) (evTs ti st ts xs) (xs.map a.eval)
  | [], [], _ => by simp [evTs, EVRs]
  | t :: ts, x :: xs, hl => by
    have := evTs_rel h ti (ts := ts) (xs := xs) (by simpa using hl)
    simp only [evTs, List.zip_cons_cons, List.map_cons, EVRs] at *
    exact ⟨evT_rel h ti t x, this⟩
  | [], _ :: _, hl => by simp at hl
  | _ :: _, [], hl => by simp at hl

theorem args_rel (h : SimB G w0 io st a w β) : ∀ {es : List EV} {vs : List Value} {avs : List AV}, EVRs (cxOf G w β st) es vs → argsE fresh st es = some avs →
    ArgsR w (Reach G w β st.o fresh) avs vs (iobOf β (ioNames es)) ∧ ∀ n ∈ ioNames es, ∃ b cells, st.o n = some (.box cells) ∧ β n = some (b, 0)
  | [], [], avs, _, ha => by simp [argsE] at ha; subst ha; simp [ArgsR, ioNames, iobOf]
  | e :: es, v :: vs, avs, hv, ha => by
    simp only [EVRs] at hv
    simp only [argsE] at ha
    split at ha
    case h_2 => simp at ha
    rename_i av as h1 h2
    simp at ha; subst ha
    obtain ⟨h3, h4⟩ := args_rel h hv.2 h2
    have hm : ∀ {v x}, Rd w (SafeOf G w β st.o) v x → Rd w (Reach G w β st.o fresh) v x := fun hr => hr.mono fun b hb => ⟨.inl hb, rfl⟩
    have hmL : ∀ {vs xs}, RdL w (SafeOf G w β st.o) xs vs → RdL w (Reach G w β st.o fresh) xs vs := fun hr => hr.mono fun b hb => ⟨.inl hb, rfl⟩
    have hv1 := hv.1
    cases e with
    | dead => simp [argE] at h1
    | d x =>
      simp [argE] at h1; subst h1
      simp only [EVR] at hv1
      exact ⟨⟨[], _, rfl, ⟨hm hv1, rfl⟩, h3⟩, h4⟩
    | nil sz =>
      simp [argE] at h1; subst h1
      simp only [EVR] at hv1
      obtain ⟨ad, rfl⟩ := hv1
      exact ⟨⟨[], _, rfl, ⟨.nil _ _ _, rfl⟩, h3⟩, h4⟩
    | agg ds =>
      simp [argE] at h1; subst h1
      simp only [EVR] at hv1
      obtain ⟨us, rfl, hr⟩ := hv1
      exact ⟨⟨[], _, rfl, ⟨⟨us, rfl, hmL hr⟩, rfl⟩, h3⟩, h4⟩
    | own n off len =>
      simp only [argE] at h1
      split at h1
      case isFalse => simp at h1
      rename_i hf
      split at h1
      case h_2 => simp at h1
      rename_i sz rows hob
      simp at h1; subst h1
      refine ⟨⟨[], _, rfl, ⟨?_, rfl⟩, h3⟩, h4⟩
      exact own_reads (c := cxOf G w β st) hob hv1 (h.objs n _ hob) (fun b hb => .inl hb) (fun b base hb => .inr ⟨hf, n, sz, rows, base, hob, hb⟩)
    | ptr n row fld =>
      simp only [argE] at h1
      split at h1
      case isFalse => simp at h1
      rename_i hrf
      obtain ⟨rfl, rfl⟩ := hrf
      split at h1
      case h_2 => simp at h1
      rename_i cells hob
      split at h1
      case h_2 => simp at h1
      rename_i ds hds
      simp at h1; subst h1
      simp only [EVR] at hv1
      obtain ⟨b, base, hβ, rfl⟩ := hv1.2 _ hob
      obtain ⟨b', cs, T, hβ', hh, hr⟩ := h.objs n _ hob
      rw [hβ] at hβ'; simp at hβ'; obtain ⟨rfl, rfl⟩ := hβ'
      have hb : β n = some (b, 0) := hβ
      refine ⟨⟨[b], iobOf β (ioNames es), by simp [ioNames, iobOf, hb], ⟨b, T, cs.toList, by simp [Obj.sz], rfl, by rw [Array.toArray_toList]; exact hh, hmL (cellsD_rel hr hds)⟩, h3⟩, ?_⟩
      intro m hm
      simp only [ioNames, List.mem_cons] at hm
      rcases hm with rfl | hm
      · exact ⟨b, cells, hob, hb⟩
      · exact h4 m hm
    | rptr cs => simp [argE] at h1
    | tup xs => simp [argE] at h1
  | [], _ :: _, _, hv, _ => by simp [EVRs] at hv
  | _ :: _, [], _, hv, _ => by simp [EVRs] at hv

theorem iob_nodup (h : SimB G w0 io st a w β) : ∀ {ns : List Nat}, ns.Nodup → (∀ n ∈ ns, ∃ b cells, st.o n = some (.box cells) ∧ β n = some (b, 0)) → (iobOf β ns).Nodup
  | [], _, _ => by simp [iobOf]
  | n :: ns, hn, hb => by
    simp only [List.nodup_cons] at hn
    have ih := iob_nodup h hn.2 (fun m hm => hb m (by simp [hm]))
    simp only [iobOf, List.map_cons, List.nodup_cons] at *
    refine ⟨?_, ih⟩
    intro hm
    obtain ⟨m, hm1, hm2⟩ := List.mem_map.mp hm
    obtain ⟨b, cells, h1, h2⟩ := hb n (by simp)
    obtain ⟨b', cells', h3, h4⟩ := hb m (by simp [hm1])
    rw [h2, h4] at hm2
    simp at hm2
    have hne : n ≠ m := fun he => hn.1 (he ▸ hm1)
    exact h.apart n m _ _ _ _ h1 h3 h2 h4 hne hm2.symm

theorem afterIos_spec : ∀ {ns : List Nat} {cs : List (List D)} {st st2 : St}, ns.Nodup → afterIos st ns cs = some st2 →
    st2.t = st.t ∧ st2.nx = st.nx ∧ ∀ n ob, st2.o n = some ob → (n ∉ ns ∧ st.o n = some ob) ∨ ∃ (i : Nat) (c : List D), ns[i]? = some n ∧ cs[i]? = some c ∧ ob = .box (c.map .d)
  | [], [], st, st2, _, h => by simp [afterIos] at h; subst h; exact ⟨rfl, rfl, fun n ob hn => .inl ⟨by simp, hn⟩⟩
  | n :: ns, c :: cs, st, st2, hnd, h => by
    simp only [afterIos] at h
    simp only [List.nodup_cons] at hnd
    obtain ⟨h1, h2, h3⟩ := afterIos_spec hnd.2 h
    refine ⟨h1, h2, fun m ob hm => ?_⟩
    rcases h3 m ob hm with ⟨h4, h5⟩ | ⟨i, c', h4, h5, h6⟩
    · by_cases hmn : m = n
      · subst hmn
        simp [upd_same] at h5
        exact .inr ⟨0, c, by simp, by simp, h5.symm⟩
      · simp [upd_ne _ _ hmn] at h5
        exact .inl ⟨by simp [hmn, h4], h5⟩
    · exact .inr ⟨i + 1, c', by simpa using h4, by simpa using h5, h6⟩
  | [], _ :: _, _, _, _, h => by simp [afterIos] at h
  | _ :: _, [], _, _, _, h => by simp [afterIos] at h

theorem IosR.get {w : World} {S : Nat → Prop} : ∀ {ios : List (List D)} {bs : List Nat} {i : Nat} {c : List D} {b : Nat}, IosR w S ios bs → ios[i]? = some c → bs[i]? = some b →
    ∃ T, ∃ vs : List Value, w.heap[b]? = some (.cells vs.toArray T (0, 0)) ∧ RdL w S c vs
  | c :: cs, b :: bs, 0, _, _, h, h1, h2 => by simp at h1 h2; subst h1; subst h2; exact h.1
  | c :: cs, b :: bs, i + 1, _, _, h, h1, h2 => IosR.get h.2 (by simpa using h1) (by simpa using h2)
  | [], [], _, _, _, _, h1, _ => by simp at h1
  | [], _ :: _, _, _, _, h, _, _ => h.elim
  | _ :: _, [], _, _, _, h, _, _ => h.elim

theorem packE_rel {c : Cx} {es : List EV} {vs : List Value} (h : EVRs c es vs) : EVR c (packE es) (packV vs) := by
  match es, vs, h with
  | [e], [v], h => simp only [EVRs] at h; exact h.1
  | [], [], h => simp only [packE, packV, EVR]; exact ⟨[], rfl, h⟩
  | e :: e' :: es, v :: v' :: vs, h => simp only [packE, packV, EVR]; exact ⟨_, rfl, h⟩
  | [], _ :: _, h => simp [EVRs] at h
  | _ :: _, [], h => simp [EVRs] at h
  | [_], _ :: _ :: _, h => simp [EVRs] at h
  | _ :: _ :: _, [_], h => simp [EVRs] at h

theorem EWcall_sound {en : En} (h : SimB G w0 io st a w β) (hW : Ext en.W0 w0) (hio : ∀ b ∈ ioB io, en.W0.heap.size ≤ b) {f : FuncId} {ts : List TypeId} {xs : List Operand} {dst : Option Tmp} {K : St → Prop}
    (hk : EWcall en f ts xs dst st K) :
    Callable en.P f ∧ Calls en.P f (xs.map a.eval).toArray w fun e w' => ∃ v, e = .returned v ∧ (ioNames (evTs en.ti (frzArgs (en.fr f) st (evTs en.ti st ts xs)) ts xs) = [] → Keeps w w') ∧ ∃ st' β', K st' ∧ SimB G w0 io st' (a.put dst v) w' β' := by
  unfold EWcall at hk
  obtain ⟨hl, hk⟩ := hk
  obtain ⟨avs, ha, hnd, post, hcon, hpost⟩ := hk
  let st1 := frzArgs (en.fr f) st (evTs en.ti st ts xs)
  have h1 : SimB G w0 io st1 a w β := frzArgs_rel h
  have hev : EVRs (cxOf G w β st1) (evTs en.ti st1 ts xs) (xs.map a.eval) := evTs_rel h1 en.ti hl
  obtain ⟨hargs, hbox⟩ := args_rel (fresh := en.fr f) h1 hev ha
  have hnd' := iob_nodup h1 hnd hbox
  have hmem : ∀ b ∈ iobOf β (ioNames (evTs en.ti st1 ts xs)), ∃ n cells, st1.o n = some (.box cells) ∧ β n = some (b, 0) := by
    intro b hb
    obtain ⟨n, hn, rfl⟩ := List.mem_map.mp hb
    obtain ⟨b', cells, h2, h3⟩ := hbox n hn
    exact ⟨n, cells, h2, by simp [h3]⟩
  have hExt : Ext en.W0 w := by
    refine ⟨Nat.le_trans hW.1 h.grown.1, fun b hb => ?_⟩
    have hb0 : b < w0.heap.size := Nat.lt_of_lt_of_le hb hW.1
    rw [h.keep b hb0 (fun hi => by have := hio b hi; omega)]
    exact hW.2 b hb
  refine ⟨hcon.1, ?_⟩
  refine (hcon.2 w (Reach G w β st1.o (en.fr f)) _ _ hExt hnd' ?_ ?_ hargs).mono ?_
  · intro b hb
    obtain ⟨n, cells, h2, h3⟩ := hmem b hb
    have hm := h1.mine n _ b 0 h2 h3
    refine ⟨?_, hm.2, ?_⟩
    · rcases hm.1 with h4 | h4
      · exact Nat.le_trans hW.1 h4
      · exact hio b h4
    · rintro (hs | ⟨_, m, sz, rows, base, h4, h5⟩)
      · exact hs.2.1 n _ _ h2 h3 rfl
      · have hne : m ≠ n := by rintro rfl; rw [h2] at h4; simp at h4
        exact h1.apart m n _ _ _ _ h4 h2 h5 h3 hne rfl
  · rintro b (hs | ⟨_, m, sz, rows, base, h4, h5⟩)
    · exact hs.1
    · exact (h1.mine m _ b base h4 h5).2
  · rintro e w' ⟨rs, ios, vs, obs, hp, rfl, hsz, hkeep, hblk, hon, hob, hios, hress⟩
    obtain ⟨st2, hst2, hK⟩ := hpost rs ios hp
    obtain ⟨ht2, hn2, ho2⟩ := afterIos_spec hnd hst2
    refine ⟨_, rfl, fun hno b hb => hkeep b hb (by rw [show evTs en.ti st1 ts xs = evTs en.ti (frzArgs (en.fr f) st (evTs en.ti st ts xs)) ts xs from rfl, hno]; simp [iobOf]), ?_⟩
    have hlive : ∀ n ob p, st2.o n = some ob → β n = some p → p.1 < w.heap.size ∧ ∃ ob', st1.o n = some ob' := by
      intro n ob p hn hpp
      rcases ho2 n ob hn with ⟨_, h4⟩ | ⟨i, c, h4, h5, rfl⟩
      · exact ⟨(h1.mine n ob p.1 p.2 h4 hpp).2, ob, h4⟩
      · obtain ⟨b', cells, h6, h7⟩ := hbox n (List.mem_of_getElem? h4)
        exact ⟨(h1.mine n _ p.1 p.2 h6 hpp).2, _, h6⟩
    have hafter : ∀ k, After w w' (Reach G w β st1.o (en.fr f)) (en.fr f) obs k → SafeOf (fun b => G b ∧ b ∉ obs) w' β st2.o k := by
      rintro k ⟨k1, k2, k3⟩
      refine ⟨k1, fun n ob p hn hpp => ?_, ?_, k2⟩
      · obtain ⟨l1, ob', l2⟩ := hlive n ob p hn hpp
        rcases k3 with k3 | ⟨hf, hs | ⟨ht, _⟩⟩
        · omega
        · exact hs.2.1 n ob' p l2 hpp
        · rw [hf] at ht; simp at ht
      · rcases k3 with k3 | ⟨hf, hs | ⟨ht, _⟩⟩
        · exact h1.gnew k k3
        · exact hs.2.2
        · rw [hf] at ht; simp at ht
    obtain ⟨h5, hle⟩ := call_rel (st' := st2) (iob := iobOf β (ioNames (evTs en.ti st1 ts xs))) (obs := obs) h1 hsz hkeep hmem hblk hob ht2 hn2 (by
      intro n ob' hn
      rcases ho2 n ob' hn with ⟨hnn, h4⟩ | ⟨i, c, h4, h5, rfl⟩
      · refine .inl ⟨h4, fun p hpp hi => ?_⟩
        obtain ⟨m, hm, hm2⟩ := List.mem_map.mp hi
        obtain ⟨b', cells, h6, h7⟩ := hbox m hm
        rw [h7] at hm2
        simp at hm2
        have hne : n ≠ m := fun he => hnn (he ▸ hm)
        exact h1.apart n m _ _ _ _ h4 h6 hpp h7 hne (by simp [hm2])
      · obtain ⟨b', cells, h6, h7⟩ := hbox n (List.mem_of_getElem? h4)
        obtain ⟨T, us, h8, h9⟩ := hios.get h5 (b := b') (by simp [iobOf, List.getElem?_map, h4, h7])
        exact .inr ⟨cells, b', T, c, us, h6, rfl, h7, h8, h9.mono fun k hk => ⟨hafter k hk, rfl⟩⟩)
    obtain ⟨β', h6, h7, h8⟩ := ret_rel h5 hon (fun b hb => by
      obtain ⟨l1, l2⟩ := hob b hb
      refine ⟨Nat.le_trans h.grown.1 l1, l2, h1.gnew b l1, fun n ob p hn hpp => ?_⟩
      have := (hlive n ob p hn hpp).1
      omega) hafter hress
    exact ⟨_, β', hK, put_rel h6 (packE_rel h7)⟩
end
end Go.RX

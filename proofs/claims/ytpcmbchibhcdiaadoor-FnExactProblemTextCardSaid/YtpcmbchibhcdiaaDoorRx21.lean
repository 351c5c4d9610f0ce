/- RX, part 21: a contract, out of the transformer of the body: the theorem. -/
import Derived.Test.YtpcmbchibhcdiaaDoorRx20
namespace Go.RX
open Go

def initB : Nat → List AV → List Nat → Beta
  | i, .io _ :: as, b :: bs => upd (initB (i + 1) as bs) i (some (b, 0))
  | i, _ :: as, bs => initB (i + 1) as bs
  | _, _, _ => fun _ => none

theorem argsR_len {w : World} {S : Nat → Prop} : ∀ {args : List AV} {vals : List Value} {bs : List Nat}, ArgsR w S args vals bs → args.length = vals.length
  | [], [], _, _ => rfl
  | _ :: as, _ :: vs, bs, h => by obtain ⟨_, _, _, _, h⟩ := h; simp [argsR_len h]
  | [], _ :: _, _, h => by simp [ArgsR] at h
  | _ :: _, [], _, h => by simp [ArgsR] at h

structure Init (w : World) (S : Nat → Prop) (i : Nat) (args : List AV) (vals : List Value) (bs : List Nat) : Prop where
  obj : ∀ n ob, initO i args n = some ob → i ≤ n ∧ n < i + args.length ∧ ∃ (ds : List D) (b : Nat) (T : TypeId) (vs : List Value), ob = .box (ds.map .d) ∧ initB i args bs n = some (b, 0) ∧ b ∈ bs ∧
    w.heap[b]? = some (.cells vs.toArray T (0, 0)) ∧ RdL w S ds vs
  low : ∀ n p, initB i args bs n = some p → i ≤ n
  mem : ∀ n p, initB i args bs n = some p → p.1 ∈ bs
  apart : bs.Nodup → ∀ n m p q, initB i args bs n = some p → initB i args bs m = some q → n ≠ m → p.1 ≠ q.1
  zip : (∀ p ∈ (ioArgs i args).zip bs, p.1 < i + args.length ∧ initB i args bs p.1 = some (p.2, 0)) ∧ (ioArgs i args).length = bs.length

theorem init_spec {w : World} {S : Nat → Prop} : ∀ {args : List AV} {vals : List Value} {bs : List Nat} (i : Nat), ArgsR w S args vals bs → Init w S i args vals bs
  | [], [], bs, i, h => by
    simp [ArgsR] at h; subst h
    exact ⟨by simp [initO], by simp [initB], by simp [initB], by simp [initB], by simp [ioArgs]⟩
  | av :: as, v :: vs, bs, i, h => by
    obtain ⟨b1, b2, rfl, h1, h2⟩ := h
    have ih := init_spec (i + 1) h2
    have plain : b1 = [] → initO i (av :: as) = initO (i + 1) as → initB i (av :: as) (b1 ++ b2) = initB (i + 1) as b2 → ioArgs i (av :: as) = ioArgs (i + 1) as → Init w S i (av :: as) (v :: vs) (b1 ++ b2) := by
      intro e1 e2 e3 e4
      refine ⟨?_, ?_, ?_, ?_, ?_⟩
      · intro n ob hn
        rw [e2] at hn; rw [e3]
        obtain ⟨c1, c2, c3⟩ := ih.obj n ob hn
        subst e1
        exact ⟨by omega, by simp; omega, c3⟩
      · intro n p hn; rw [e3] at hn; have := ih.low n p hn; omega
      · intro n p hn; rw [e3] at hn; have := ih.mem n p hn; simp [this]
      · intro hnd n m p q hn hm; rw [e3] at hn hm; subst e1; exact ih.apart hnd n m p q hn hm
      · rw [e3, e4]; subst e1
        refine ⟨fun p hp => ?_, ih.zip.2⟩
        have := ih.zip.1 p hp
        exact ⟨by simp; omega, this.2⟩
    cases av with
    | d x => exact plain h1.2 rfl (by rw [h1.2]; rfl) rfl
    | agg ds => exact plain h1.2 rfl (by rw [h1.2]; rfl) rfl
    | io ds =>
      obtain ⟨b, T, us, rfl, rfl, hh, hr⟩ := h1
      have eB : initB i (.io ds :: as) ([b] ++ b2) = upd (initB (i + 1) as b2) i (some (b, 0)) := rfl
      have eO : initO i (.io ds :: as) = upd (initO (i + 1) as) i (some (.box (ds.map .d))) := rfl
      refine ⟨?_, ?_, ?_, ?_, ?_⟩
      · intro n ob hn
        rw [eO] at hn; rw [eB]
        by_cases hni : n = i
        · subst hni
          rw [upd_same] at hn ⊢
          simp at hn; subst hn
          exact ⟨Nat.le_refl _, by simp, ds, b, T, us, rfl, rfl, by simp, hh, hr⟩
        · rw [upd_ne _ _ hni] at hn ⊢
          obtain ⟨c1, c2, ds', b', T', us', c3, c4, c5, c6, c7⟩ := ih.obj n ob hn
          exact ⟨by omega, by simp; omega, ds', b', T', us', c3, c4, by simp [c5], c6, c7⟩
      · intro n p hn
        rw [eB] at hn
        by_cases hni : n = i
        · omega
        · rw [upd_ne _ _ hni] at hn; have := ih.low n p hn; omega
      · intro n p hn
        rw [eB] at hn
        by_cases hni : n = i
        · subst hni; rw [upd_same] at hn; simp at hn; subst hn; simp
        · rw [upd_ne _ _ hni] at hn; have := ih.mem n p hn; simp [this]
      · intro hnd n m p q hn hm hne
        rw [eB] at hn hm
        simp at hnd
        by_cases hni : n = i
        · subst hni
          rw [upd_same] at hn; simp at hn; subst hn
          rw [upd_ne _ _ (Ne.symm hne)] at hm
          have := ih.mem m q hm
          exact fun he => hnd.1 (by simp at he; rw [he]; exact this)
        · rw [upd_ne _ _ hni] at hn
          by_cases hmi : m = i
          · subst hmi
            rw [upd_same] at hm; simp at hm; subst hm
            have := ih.mem n p hn
            exact fun he => hnd.1 (by simp at he; rw [← he]; exact this)
          · rw [upd_ne _ _ hmi] at hm
            exact ih.apart hnd.2 n m p q hn hm hne
      · rw [eB]
        refine ⟨?_, by simp [ioArgs, ih.zip.2]⟩
        intro p hp
        simp only [ioArgs, List.singleton_append, List.zip_cons_cons, List.mem_cons] at hp
        rcases hp with rfl | hp
        · exact ⟨by simp, upd_same _ _ _⟩
        · have h3 := ih.zip.1 p hp
          have h4 := ih.low p.1 _ h3.2
          exact ⟨by simp; omega, by rw [upd_ne _ _ (by omega)]; exact h3.2⟩
  | [], _ :: _, _, _, h => by simp [ArgsR] at h
  | _ :: _, [], _, _, h => by simp [ArgsR] at h

theorem initT_rel {w : World} {S : Nat → Prop} {c : Cx} (hw : c.w = w) (hS : ∀ k, S k → c.S k) : ∀ {args : List AV} {vals : List Value} {bs : List Nat} (i : Nat), ArgsR w S args vals bs →
    (∀ n, i ≤ n → n < i + args.length → n < c.m ∧ c.o n = initO i args n ∧ ∀ p, initB i args bs n = some p → c.β n = some p) → EVRs c (initT i args) vals
  | [], [], _, _, _, _ => by simp [initT, EVRs]
  | av :: as, v :: vs, bs, i, h, hc => by
    obtain ⟨b1, b2, rfl, h1, h2⟩ := h
    have hL : ∀ {ds us}, RdL w S ds us → RdL c.w c.S ds us := fun hr => by rw [hw]; exact hr.mono fun k hk => ⟨hS k hk, rfl⟩
    simp only [initT, EVRs]
    have rest : b1 ++ b2 = b1 ++ b2 → EVRs c (initT (i + 1) as) vs := by
      intro _
      refine initT_rel hw hS (i + 1) h2 ?_
      intro n hn1 hn2
      obtain ⟨c1, c2, c3⟩ := hc n (by omega) (by simp; omega)
      refine ⟨c1, ?_, ?_⟩
      · rw [c2]
        cases av with
        | d x => rfl
        | agg ds => rfl
        | io ds => exact upd_ne _ _ (by omega)
      · intro p hp
        refine c3 p ?_
        cases av with
        | d x => have e := h1.2; subst e; exact hp
        | agg ds => have e := h1.2; subst e; exact hp
        | io ds =>
          obtain ⟨b, T, us, rfl, rfl, hh, hr⟩ := h1
          exact (upd_ne _ _ (by omega)).trans hp
    refine ⟨?_, rest rfl⟩
    cases av with
    | d x => simp only [initE, EVR]; rw [hw]; exact h1.1.mono fun k hk => ⟨hS k hk, rfl⟩
    | agg ds => simp only [initE, EVR]; obtain ⟨⟨us, rfl, hr⟩, _⟩ := h1; exact ⟨us, rfl, hL hr⟩
    | io ds =>
      obtain ⟨b, T, us, rfl, rfl, hh, hr⟩ := h1
      obtain ⟨c1, c2, c3⟩ := hc i (Nat.le_refl _) (by simp)
      simp only [initE, EVR]
      refine ⟨c1, fun ob hob => ?_⟩
      rw [c2] at hob
      have e1 : initO i (.io ds :: as) i = some (.box (ds.map .d)) := upd_same _ _ _
      rw [e1] at hob
      simp at hob; subst hob
      exact ⟨b, 0, c3 _ (upd_same _ _ _), by simp [Obj.sz]⟩
  | [], _ :: _, _, _, h, _ => by simp [ArgsR] at h
  | _ :: _, [], _, _, h, _ => by simp [ArgsR] at h

theorem results_eq (fn : Func) (tmps : Array Value) : results fn tmps = (fn.results.mapM (resSem tmps) >>= fun vs => pure (if h : vs.size = 1 then vs[0] else .tuple vs)) := by
  unfold results
  rfl
theorem results_run {P : Program} {fn : Func} {tmps : Array Value} {w : World} {vs : List Value} (h : (fn.results.toList.mapM (resSem tmps)).run P w = .ok vs w) : (results fn tmps).run P w = .ok (packV vs) w := by
  rw [results_eq, Array.mapM_eq_mapM_toList]
  simp only [Sem.run_bind, Sem.run_map, h, Result.andThen_ok, Sem.run_pure]
  match vs with
  | [] => rfl
  | [v] => rfl
  | v :: v' :: vs => simp [packV]

theorem ios_len {w : World} {S : Nat → Prop} : ∀ {ios : List (List D)} {bs : List Nat} {b : Nat}, IosR w S ios bs → b ∈ bs → ∃ (i : Nat) (c : List D) (T : TypeId) (vs : List Value), ios[i]? = some c ∧ bs[i]? = some b ∧ w.heap[b]? = some (.cells vs.toArray T (0, 0)) ∧ vs.length = c.length
  | c :: cs, b :: bs, k, h, hk => by
    simp at hk
    rcases hk with rfl | hk
    · obtain ⟨⟨T, vs, h1, h2⟩, _⟩ := h
      exact ⟨0, c, T, vs, by simp, by simp, h1, h2.length.symm⟩
    · obtain ⟨i, c', T, vs, h1, h2, h3, h4⟩ := ios_len h.2 hk
      exact ⟨i + 1, c', T, vs, by simpa using h1, by simpa using h2, h3, h4⟩
  | [], [], _, _, hk => by simp at hk
  | [], _ :: _, _, h, _ => h.elim
  | _ :: _, [], _, h, _ => h.elim
theorem args_io_len {w : World} {S : Nat → Prop} : ∀ {args : List AV} {vals : List Value} {bs : List Nat} {i b : Nat}, ArgsR w S args vals bs → bs[i]? = some b →
    ∃ (T : TypeId) (vs : List Value), w.heap[b]? = some (.cells vs.toArray T (0, 0)) ∧ (ioLens args)[i]? = some vs.length
  | [], [], bs, i, b, h, hb => by simp [ArgsR] at h; subst h; simp at hb
  | av :: as, v :: vs, bs, i, b, h, hb => by
    obtain ⟨b1, b2, rfl, h1, h2⟩ := h
    cases av with
    | d x => have e := h1.2; subst e; simpa [ioLens] using args_io_len h2 (by simpa using hb)
    | agg ds => have e := h1.2; subst e; simpa [ioLens] using args_io_len h2 (by simpa using hb)
    | io ds =>
      obtain ⟨b0, T, us, rfl, rfl, hh, hr⟩ := h1
      cases i with
      | zero => simp at hb; subst hb; exact ⟨T, us, hh, by simp [ioLens, hr.length]⟩
      | succ i => simpa [ioLens] using args_io_len h2 (by simpa using hb)
  | [], _ :: _, _, _, _, h, _ => by simp [ArgsR] at h
  | _ :: _, [], _, _, _, h, _ => by simp [ArgsR] at h

theorem EVRs.dead {c : Cx} : ∀ (n : Nat), EVRs c (List.replicate n .dead) (List.replicate n undef)
  | 0 => by simp [EVRs]
  | n + 1 => by simp only [List.replicate_succ, EVRs, EVR]; exact ⟨trivial, EVRs.dead n⟩

/-- A CONTRACT, OUT OF THE TRANSFORMER OF THE BODY. -/
theorem Con.mk {en : En} (H : TIok en.P en.ti) (hm : en.P.follows .mixedOrders = true) {f : FuncId} {fn : Func} {body : Code} {args : List AV} {post : Post} (m : List Bool) (h4 : (ioArgs 0 args).all (fun n => decide (n < 4)) = true) (hf : en.P.funcs[f]? = some fn) (hb : fn.body = some body)
    (hname : (fn.name == "runtime.NumGoroutine") = false) (hE : EW en body (Exits en.ti (en.fr f) fn.results.toList m (ioArgs 0 args) (ioLens args) post) (initSt fn.ntmps args)) : Con en.P en.W0 f (en.fr f) args post := by
  refine ⟨⟨fn, hf, by simp [hb], hname⟩, ?_⟩
  intro w S vals io hExt hnd hio hS hargs
  have hlen := argsR_len hargs
  have I := init_spec 0 hargs
  let G : Nat → Prop := fun b => S b ∨ w.heap.size ≤ b ∨ b ∈ io
  let iol := (ioArgs 0 args).zip io
  let β0 := initB 0 args io
  let st0 := initSt fn.ntmps args
  let a0 : Act := { tmps := vals.toArray ++ Array.replicate (fn.ntmps - vals.toArray.size) undef, defers := [] }
  have hiol : ioB iol = io := by
    simp only [ioB, iol]
    rw [List.map_snd_zip]
    rw [I.zip.2]
    exact Nat.le_refl _
  have hSsafe : ∀ k, S k → SafeOf G w β0 st0.o k := by
    intro k hk
    refine ⟨hS k hk, fun n ob p _ hp => ?_, .inl hk⟩
    have := I.mem n p hp
    exact fun he => (hio _ this).2.2 (he ▸ hk)
  have h0 : SimB G w iol st0 a0 w β0 := by
    refine ⟨?_, fun b hb => .inr (.inl hb), ?_, rfl, ?_, ?_, ?_, ?_, ?_, ⟨Nat.le_refl _, rfl, rfl⟩, fun b _ _ => rfl⟩
    · intro n ob p hn hp
      exact .inr (.inr (I.mem n p hp))
    · intro p hp
      have := I.zip.1 p hp
      exact ⟨Nat.lt_of_lt_of_le (by simpa using this.1) (Nat.le_max_right _ _), this.2⟩
    · have h1 : EVRs (cxOf G w β0 st0) (initT 0 args) vals := initT_rel (w := w) (S := S) rfl hSsafe 0 hargs (fun n _ hn => ⟨Nat.lt_of_lt_of_le (by simpa using hn) (Nat.le_max_right _ _), rfl, fun p hp => hp⟩)
      have h2 := EVRs.append h1 (EVRs.dead (fn.ntmps - args.length))
      simpa [st0, initSt, a0, hlen] using h2
    · intro n ob hn
      obtain ⟨_, _, ds, b, T, us, rfl, h2, _, h4, h5⟩ := I.obj n ob hn
      refine ⟨b, us.toArray, T, h2, h4, ?_⟩
      simpa using RdL.evrs (c := cxOf G w β0 st0) (h5.mono fun k hk => ⟨hSsafe k hk, rfl⟩)
    · intro n ob b base hn hp
      have := I.mem n _ hp
      exact ⟨.inr (by rw [hiol]; exact this), (hio _ this).2.1⟩
    · intro n m' ob ob' p q _ _ hp hq hne
      exact I.apart hnd n m' p q hp hq hne
    · intro n ob hn
      have := (I.obj n ob hn).2.1
      exact Nat.lt_of_lt_of_le (by simpa using this) (Nat.le_max_right _ _)
  have hW : Ext en.W0 w := hExt
  have hio' : ∀ b ∈ ioB iol, en.W0.heap.size ≤ b := fun b hb => (hio b (by rwa [hiol] at hb)).1
  have hio4 : ∀ p ∈ iol, p.1 < 4 := by
    intro p hp
    have h5 := List.all_eq_true.mp h4 p.1 (List.of_mem_zip hp).1
    simpa using h5
  refine calls_of_wp hf hb (wp_mono (EW_sound H hW hio' hio4 hm body h0 hE) ?_)
  have key : ∀ (st : St) (a : Act) (w' : World) (β : Beta), Rets en.ti (en.fr f) fn.results.toList m (ioArgs 0 args) (ioLens args) post st → SimB G w iol st a w' β →
      a.defers = [] ∧ ∃ v, (results fn a.tmps).run en.P w' = .ok v w' ∧ ∃ rs ios, ∃ vs : List Value, ∃ obs, post rs ios ∧ Ending.returned v = .returned (packV vs) ∧ WLe w w' ∧ (∀ b, b < w.heap.size → b ∉ io → w'.heap[b]? = w.heap[b]?) ∧
      (∀ b ∈ io, ∀ k, Blk w b k → Blk w' b k) ∧ obs.Nodup ∧ (∀ b ∈ obs, w.heap.size ≤ b ∧ b < w'.heap.size) ∧
      IosR w' (After w w' S (en.fr f) obs) ios io ∧ RessR w' (After w w' S (en.fr f) obs) rs vs obs := by
    intro st a w' β hR hs
    obtain ⟨rs, hrs, hown, ios, hios, hls, hflat, hpost⟩ := hR
    have h1 := frzIos_rel (ns := ioArgs 0 args) (frzRes_rel (ti := en.ti) (rvs := fn.results.toList) (m := m) hs)
    obtain ⟨vs, obs, hrun, hon, hob, hres⟩ := ress_rel (P := en.P) H h1 hrs (List.nodup_append.mp hown).1
    obtain ⟨hib, hiov⟩ := iosVal_rel h1 (bs := io) (fun p hp => (h1.ion p hp).2) I.zip.2 hios
    have hafter : (∀ k, SafeOf G w' β (frzIos (frzRes en.ti st fn.results.toList m) (ioArgs 0 args)).o k → After w w' S (en.fr f) obs k) ∨ en.fr f = true := by
      cases hfr : en.fr f with
      | true => exact .inr rfl
      | false =>
        refine .inl fun k hk => ⟨hk.1, fun hko => ?_, ?_⟩
        · obtain ⟨n, ob, base, _, h2, h3⟩ := hob k hko
          exact hk.2.1 n _ _ h2 h3 rfl
        · rcases hk.2.2 with h2 | h2 | h2
          · exact .inr ⟨rfl, h2⟩
          · exact .inl h2
          · obtain ⟨n, cells, _, h3, h4⟩ := hib k h2
            exact absurd rfl (hk.2.1 n _ _ h3 h4)
    refine ⟨hs.defers, packV vs, results_run hrun, rs, ios, vs, obs, hpost, rfl, hs.grown, ?_, ?_, hon, ?_, ?_, ?_⟩
    · intro b hb1 hb2
      exact hs.keep b hb1 (by rw [hiol]; exact hb2)
    · intro b hb k hk
      obtain ⟨i, c, T, us, h2, h3, h4, h5⟩ := ios_len (hiov (fun k => SafeOf G w' β (frzIos (frzRes en.ti st fn.results.toList m) (ioArgs 0 args)).o k) (.inl fun k hk => hk)) hb
      obtain ⟨T', us', h6, h7⟩ := args_io_len hargs h3
      obtain ⟨cs, T'', h8, h9⟩ := hk
      rw [h6] at h8
      simp only [Option.some.injEq, Obj.cells.injEq] at h8
      obtain ⟨rfl, _, _⟩ := h8
      refine ⟨us.toArray, T, h4, ?_⟩
      rw [← hls, List.getElem?_map, h2] at h7
      simp at h7 h9 ⊢
      omega
    · intro b hb
      obtain ⟨n, ob, base, hnr, h2, h3⟩ := hob b hb
      have hm := h1.mine n _ b base h2 h3
      refine ⟨?_, hm.2⟩
      rcases hm.1 with h4 | h4
      · exact h4
      · rw [hiol] at h4
        obtain ⟨n', cells, hni, h5, h6⟩ := hib b h4
        have hne : n ≠ n' := (List.nodup_append.mp hown).2.2 n hnr n' hni
        exact absurd rfl (h1.apart n n' _ _ (b, base) (b, 0) h2 h5 h3 h6 hne)
    · refine hiov _ (hafter.imp id fun hfr => (hflat hfr).2)
    · refine hres _ (hafter.imp id fun hfr => (hflat hfr).1)
  rintro e a w' ⟨st, β, hQ, hs⟩
  cases e with
  | normal => exact key st a w' β hQ hs
  | ret => exact key st a w' β hQ hs
  | exit id => exact hQ.elim
  | goto l => exact hQ.elim
  | panic ch => exact hQ.elim
  | outgrown => exact hQ.elim
end Go.RX

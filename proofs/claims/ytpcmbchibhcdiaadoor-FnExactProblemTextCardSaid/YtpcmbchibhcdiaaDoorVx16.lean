/- VX, part 16: a contract, out of a proof about the body (the text of RX, part 21, for any such proof). -/
import Derived.Test.YtpcmbchibhcdiaaDoorVx15
namespace Go.RX
open Go

/-- A CONTRACT, OUT OF THE TRANSFORMER OF THE BODY. -/
theorem Con.mkW {en : En} (H : TIok en.P en.ti) (hm : en.P.follows .mixedOrders = true) {f : FuncId} {fn : Func} {body : Code} {args : List AV} {post : Post} (m : List Bool) (h4 : (ioArgs 0 args).all (fun n => decide (n < 4)) = true) (hf : en.P.funcs[f]? = some fn) (hb : fn.body = some body)
    (hname : (fn.name == "runtime.NumGoroutine") = false) (hE : ∀ (G : Nat → Prop) (w0 : World) (io : List (Nat × Nat)) (a : Act) (w : World) (β : Beta), Ext en.W0 w0 → (∀ b ∈ ioB io, en.W0.heap.size ≤ b) → (∀ p ∈ io, p.1 < 4) → SimB G w0 io (initSt fn.ntmps args) a w β →
      body.wp en.P (NxE G w0 io (Exits en.ti (en.fr f) fn.results.toList m (ioArgs 0 args) (ioLens args) post)) a w) : Con en.P en.W0 f (en.fr f) args post := by
  refine ⟨⟨fn, hf, by simp [hb], hname⟩, ?_⟩
  intro w S vals io hExt hnd hio hS hargs
  have hlen := argsR_len hargs
  have I := init_spec 0 hargs
  let G : Nat → Prop := fun b => S b ∨ w.heap.size ≤ b ∨ b ∈ io
  let iol := (ioArgs 0 args).zip io
  let β0 := initB 0 args io
  let st0 := initSt fn.ntmps args
  let a0 : Act := { tmps := vals.toArray ++ Array.replicate (fn.ntmps - vals.toArray.size) undef, defers := [] }
  have hiol : ioB iol = io := by
    simp only [ioB, iol]
    rw [List.map_snd_zip]
    rw [I.zip.2]
    exact Nat.le_refl _
  have hSsafe : ∀ k, S k → SafeOf G w β0 st0.o k := by
    intro k hk
    refine ⟨hS k hk, fun n ob p _ hp => ?_, .inl hk⟩
    have := I.mem n p hp
    exact fun he => (hio _ this).2.2 (he ▸ hk)
  have h0 : SimB G w iol st0 a0 w β0 := by
    refine ⟨?_, fun b hb => .inr (.inl hb), ?_, rfl, ?_, ?_, ?_, ?_, ?_, ⟨Nat.le_refl _, rfl, rfl⟩, fun b _ _ => rfl⟩
    · intro n ob p hn hp
      exact .inr (.inr (I.mem n p hp))
    · intro p hp
      have := I.zip.1 p hp
      exact ⟨Nat.lt_of_lt_of_le (by simpa using this.1) (Nat.le_max_right _ _), this.2⟩
    · have h1 : EVRs (cxOf G w β0 st0) (initT 0 args) vals := initT_rel (w := w) (S := S) rfl hSsafe 0 hargs (fun n _ hn => ⟨Nat.lt_of_lt_of_le (by simpa using hn) (Nat.le_max_right _ _), rfl, fun p hp => hp⟩)
      have h2 := EVRs.append h1 (EVRs.dead (fn.ntmps - args.length))
      simpa [st0, initSt, a0, hlen] using h2
    · intro n ob hn
      obtain ⟨_, _, ds, b, T, us, rfl, h2, _, h4, h5⟩ := I.obj n ob hn
      refine ⟨b, us.toArray, T, h2, h4, ?_⟩
      simpa using RdL.evrs (c := cxOf G w β0 st0) (h5.mono fun k hk => ⟨hSsafe k hk, rfl⟩)
    · intro n ob b base hn hp
      have := I.mem n _ hp
      exact ⟨.inr (by rw [hiol]; exact this), (hio _ this).2.1⟩
    · intro n m' ob ob' p q _ _ hp hq hne
      exact I.apart hnd n m' p q hp hq hne
    · intro n ob hn
      have := (I.obj n ob hn).2.1
      exact Nat.lt_of_lt_of_le (by simpa using this) (Nat.le_max_right _ _)
  have hW : Ext en.W0 w := hExt
  have hio' : ∀ b ∈ ioB iol, en.W0.heap.size ≤ b := fun b hb => (hio b (by rwa [hiol] at hb)).1
  have hio4 : ∀ p ∈ iol, p.1 < 4 := by
    intro p hp
    have h5 := List.all_eq_true.mp h4 p.1 (List.of_mem_zip hp).1
    simpa using h5
  refine calls_of_wp hf hb (wp_mono (hE G w iol a0 w β0 hW hio' hio4 h0) ?_)
  have key : ∀ (st : St) (a : Act) (w' : World) (β : Beta), Rets en.ti (en.fr f) fn.results.toList m (ioArgs 0 args) (ioLens args) post st → SimB G w iol st a w' β →
      a.defers = [] ∧ ∃ v, (results fn a.tmps).run en.P w' = .ok v w' ∧ ∃ rs ios, ∃ vs : List Value, ∃ obs, post rs ios ∧ Ending.returned v = .returned (packV vs) ∧ WLe w w' ∧ (∀ b, b < w.heap.size → b ∉ io → w'.heap[b]? = w.heap[b]?) ∧
      (∀ b ∈ io, ∀ k, Blk w b k → Blk w' b k) ∧ obs.Nodup ∧ (∀ b ∈ obs, w.heap.size ≤ b ∧ b < w'.heap.size) ∧
      IosR w' (After w w' S (en.fr f) obs) ios io ∧ RessR w' (After w w' S (en.fr f) obs) rs vs obs := by
    intro st a w' β hR hs
    obtain ⟨rs, hrs, hown, ios, hios, hls, hflat, hpost⟩ := hR
    have h1 := frzIos_rel (ns := ioArgs 0 args) (frzRes_rel (ti := en.ti) (rvs := fn.results.toList) (m := m) hs)
    obtain ⟨vs, obs, hrun, hon, hob, hres⟩ := ress_rel (P := en.P) H h1 hrs (List.nodup_append.mp hown).1
    obtain ⟨hib, hiov⟩ := iosVal_rel h1 (bs := io) (fun p hp => (h1.ion p hp).2) I.zip.2 hios
    have hafter : (∀ k, SafeOf G w' β (frzIos (frzRes en.ti st fn.results.toList m) (ioArgs 0 args)).o k → After w w' S (en.fr f) obs k) ∨ en.fr f = true := by
      cases hfr : en.fr f with
      | true => exact .inr rfl
      | false =>
        refine .inl fun k hk => ⟨hk.1, fun hko => ?_, ?_⟩
        · obtain ⟨n, ob, base, _, h2, h3⟩ := hob k hko
          exact hk.2.1 n _ _ h2 h3 rfl
        · rcases hk.2.2 with h2 | h2 | h2
          · exact .inr ⟨rfl, h2⟩
          · exact .inl h2
          · obtain ⟨n, cells, _, h3, h4⟩ := hib k h2
            exact absurd rfl (hk.2.1 n _ _ h3 h4)
    refine ⟨hs.defers, packV vs, results_run hrun, rs, ios, vs, obs, hpost, rfl, hs.grown, ?_, ?_, hon, ?_, ?_, ?_⟩
    · intro b hb1 hb2
      exact hs.keep b hb1 (by rw [hiol]; exact hb2)
    · intro b hb k hk
      obtain ⟨i, c, T, us, h2, h3, h4, h5⟩ := ios_len (hiov (fun k => SafeOf G w' β (frzIos (frzRes en.ti st fn.results.toList m) (ioArgs 0 args)).o k) (.inl fun k hk => hk)) hb
      obtain ⟨T', us', h6, h7⟩ := args_io_len hargs h3
      obtain ⟨cs, T'', h8, h9⟩ := hk
      rw [h6] at h8
      simp only [Option.some.injEq, Obj.cells.injEq] at h8
      obtain ⟨rfl, _, _⟩ := h8
      refine ⟨us.toArray, T, h4, ?_⟩
      rw [← hls, List.getElem?_map, h2] at h7
      simp at h7 h9 ⊢
      omega
    · intro b hb
      obtain ⟨n, ob, base, hnr, h2, h3⟩ := hob b hb
      have hm := h1.mine n _ b base h2 h3
      refine ⟨?_, hm.2⟩
      rcases hm.1 with h4 | h4
      · exact h4
      · rw [hiol] at h4
        obtain ⟨n', cells, hni, h5, h6⟩ := hib b h4
        have hne : n ≠ n' := (List.nodup_append.mp hown).2.2 n hnr n' hni
        exact absurd rfl (h1.apart n n' _ _ (b, base) (b, 0) h2 h5 h3 h6 hne)
    · refine hiov _ (hafter.imp id fun hfr => (hflat hfr).2)
    · refine hres _ (hafter.imp id fun hfr => (hflat hfr).1)
  rintro e a w' ⟨st, β, hQ, hs⟩
  cases e with
  | normal => exact key st a w' β hQ hs
  | ret => exact key st a w' β hQ hs
  | exit id => exact hQ.elim
  | goto l => exact hQ.elim
  | panic ch => exact hQ.elim
  | outgrown => exact hQ.elim
end Go.RX

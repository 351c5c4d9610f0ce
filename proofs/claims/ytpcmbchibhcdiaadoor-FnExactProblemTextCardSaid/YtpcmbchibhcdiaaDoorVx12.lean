/- VX, part 12: calls; every operation. -/
import Derived.Test.YtpcmbchibhcdiaaDoorVx11
namespace Go.RX
open Go

variable {nt : Nat} {f : Nat → Nat} {vs : VSt} {st : St} {ven : VEn} {ren : En} {b : Nat} {o : Oper} {K : TV → Ups → Prop}

theorem HLe.trans {h h' h'' : VH} {f f' f'' : Nat → Nat} (h1 : HLe h h' f f') (h2 : HLe h' h'' f' f'') : HLe h h'' f f'' := by
  refine ⟨fun n hn => h2.gone n (h1.gone n hn), fun n T rows fz hn => ?_, fun n cells hn => ?_⟩
  · rcases h1.arr n T rows fz hn with h3 | ⟨h3, rows', h4, h5, h6⟩
    · exact .inl (h2.gone n h3)
    · rcases h2.arr n T rows' fz h4 with h7 | ⟨h7, rows'', h8, h9, h10⟩
      · exact .inl h7
      · exact .inr ⟨by rw [h7, h3], rows'', h8, by rw [h9, h5], fun hz => by rw [h10 hz, h6 hz]⟩
  · rcases h1.box n cells hn with h3 | ⟨h3, c', h4⟩
    · exact .inl (h2.gone n h3)
    · rcases h2.box n c' h4 with h7 | ⟨h7, c'', h8⟩
      · exact .inl h7
      · exact .inr ⟨by rw [h7, h3], c'', h8⟩

theorem cellVV_rel {h : VH} {a : TA} {e : EV} {c : VV} (hr : relA h f a e) (hc : cellVV h a = some c) : cellD e = some (vvD c) := by
  cases a with
  | v T x =>
    obtain ⟨_, rfl⟩ := hr
    have key : ∀ {T : Ty} (x : T.den), T.atom = true → cellD (vE T x) = some (vvD ⟨T, x⟩) := by
      intro T x ha
      obtain ⟨d, h1, h2⟩ := vE_atom ha x
      simp [h1, cellD, vvD, h2]
    cases T <;> simp only [cellVV] at hc <;> first
      | (simp at hc; done)
      | (simp only [Option.some.injEq] at hc; subst hc; exact key _ rfl)
  | nilS r =>
    obtain ⟨_, rfl⟩ := hr
    simp only [cellVV, Option.some.injEq] at hc
    subst hc; rfl
  | own n sg =>
    simp only [cellVV] at hc
    split at hc
    · rename_i T rows hs
      simp only [Option.some.injEq] at hc
      subst hc
      simp only [relA] at hr
      rw [hs] at hr
      rw [hr.2.1 rfl]; rfl
    · simp at hc
  | dead => simp [cellVV] at hc
  | ptr _ _ _ => simp [cellVV] at hc
  | rptr _ _ _ => simp [cellVV] at hc
  | fn _ => simp [cellVV] at hc
theorem cellsVV_rel {h : VH} : ∀ {as : List TA} {es : List EV} {cs : List VV}, All2 (relA h f) as es → cellsVV h as = some cs → cellsD es = some (cs.map vvD)
  | [], [], cs, _, hc => by simp [cellsVV] at hc; subst hc; rfl
  | a :: as, e :: es, cs, hr, hc => by
    simp only [cellsVV] at hc
    split at hc
    · rename_i x xs h1 h2
      simp only [Option.some.injEq] at hc; subst hc
      simp [cellsD, cellVV_rel hr.1 h1, cellsVV_rel hr.2 h2]
    · simp at hc
  | [], _ :: _, _, h, _ => h.elim
  | _ :: _, [], _, h, _ => h.elim

theorem argV_rel (h : Rel nt f vs st) (fresh : Bool) {a : TA} {e : EV} {av : VA} (hr : relA vs.h f a e) (hc : argV fresh vs.h a = some av) :
    argE fresh st e = some av.av ∧ (∀ r k, (∃ n, a = .ptr n r k ∧ e = .ptr (f n) 0 k ∧ ∃ cells, hget vs.h n = .box cells) ∨ (∀ n, a ≠ .ptr n r k)) ∧ ((∀ n r k, a ≠ .ptr n r k) → ∀ n r k, e ≠ .ptr n r k) := by
  cases a with
  | v T x =>
    obtain ⟨_, rfl⟩ := hr
    simp only [argV, Option.some.injEq] at hc; subst hc
    refine ⟨by cases T <;> rfl, fun r k => .inr (fun n he => by cases he), fun _ n r k => by cases T <;> simp [vE]⟩
  | nilS r =>
    obtain ⟨_, rfl⟩ := hr
    simp only [argV, Option.some.injEq] at hc; subst hc
    exact ⟨rfl, fun r k => .inr (fun n he => by cases he), fun _ n r k => by simp⟩
  | own n sg =>
    simp only [argV] at hc
    split at hc
    case h_2 => simp at hc
    rename_i T rows fz hs
    split at hc
    case isFalse => simp at hc
    rename_i hfz
    simp only [Option.some.injEq] at hc; subst hc
    simp only [relA] at hr
    rw [hs] at hr
    cases fz with
    | true => rw [hr.2.1 rfl]; exact ⟨rfl, fun r k => .inr (fun n he => by cases he), fun _ n r k => by simp⟩
    | false =>
      obtain ⟨_, hob⟩ := relS.arr h hs
      rw [hr.2.2 rfl]
      have hf : fresh = true := by simpa using hfz
      refine ⟨?_, fun r k => .inr (fun n he => by cases he), fun _ n r k => by simp⟩
      simp only [argE, hf, if_true, hob, VA.av, vE, Option.some.injEq]
      rw [segOf_eq, List.map_take, List.map_drop]
  | ptr n row k =>
    simp only [argV] at hc
    split at hc
    case h_2 => simp at hc
    rename_i cells hs
    split at hc
    case isFalse => simp at hc
    rename_i hk
    subst hk
    split at hc
    case h_2 => simp at hc
    rename_i cs hcs
    simp only [Option.some.injEq] at hc; subst hc
    simp only [relA] at hr
    rw [hs] at hr
    obtain ⟨hrow, rfl⟩ := hr
    obtain ⟨_, es, hob, hall⟩ := relS.box h hs
    refine ⟨?_, fun r k => ?_, fun hn => absurd rfl (hn n row 0)⟩
    · simp only [argE, and_self, if_true, hob, cellsVV_rel hall hcs]
      rfl
    · by_cases hrk : row = r ∧ 0 = k
      · obtain ⟨rfl, rfl⟩ := hrk
        exact .inl ⟨n, rfl, rfl, cells, hs⟩
      · exact .inr fun m he => hrk (by injection he with _ h2 h3; exact ⟨h2, h3⟩)
  | dead => simp [argV] at hc
  | rptr _ _ _ => simp [argV] at hc
  | fn _ => simp [argV] at hc

theorem argsV_rel (h : Rel nt f vs st) (fresh : Bool) : ∀ {as : List TA} {es : List EV} {avs : List VA}, All2 (relA vs.h f) as es → argsV fresh vs.h as = some avs →
    argsE fresh st es = some (avs.map VA.av) ∧ ioNames es = (ioV vs.h as).map f ∧ ∀ n ∈ ioV vs.h as, ∃ cells, hget vs.h n = .box cells
  | [], [], avs, _, hc => by simp [argsV] at hc; subst hc; exact ⟨rfl, rfl, by simp [ioV]⟩
  | a :: as, e :: es, avs, hr, hc => by
    simp only [argsV] at hc
    split at hc
    case h_2 => simp at hc
    rename_i x xs h1 h2
    simp only [Option.some.injEq] at hc; subst hc
    obtain ⟨h3, h4, h5⟩ := argV_rel h fresh hr.1 h1
    obtain ⟨h6, h7, h8⟩ := argsV_rel h fresh hr.2 h2
    refine ⟨by simp [argsE, h3, h6], ?_⟩
    by_cases hp : ∃ n r k, a = .ptr n r k
    · obtain ⟨n, r, k, rfl⟩ := hp
      rcases h4 r k with ⟨m, he, rfl, cells, hs⟩ | hn
      · injection he with h9 _ _
        subst h9
        refine ⟨by simp [ioNames, ioV, h7], fun m hm => ?_⟩
        simp only [ioV, List.mem_cons] at hm
        rcases hm with rfl | hm
        · exact ⟨cells, hs⟩
        · exact h8 m hm
      · exact absurd rfl (hn n)
    · have hne : ∀ n r k, a ≠ .ptr n r k := fun n r k he => hp ⟨n, r, k, he⟩
      have hne2 := h5 hne
      have e1 : ioV vs.h (a :: as) = ioV vs.h as := by cases a <;> first | rfl | exact absurd rfl (hne _ _ _)
      have e2 : ioNames (e :: es) = ioNames es := by cases e <;> first | rfl | exact absurd rfl (hne2 _ _ _)
      rw [e1, e2]
      exact ⟨h7, h8⟩
  | [], _ :: _, _, h, _ => h.elim
  | _ :: _, [], _, h, _ => h.elim

theorem vvTA_rel {h : VH} {c : VV} (hok : c.1.ok = true) (hat : c.1.atom = true) : relA h f (vvTA c) (.d (vvD c)) := by
  obtain ⟨T, x⟩ := c
  obtain ⟨d, h1, h2⟩ := vE_atom hat x
  refine ⟨hok, ?_⟩
  simp [h1, vvD, h2]
theorem vvTAs_rel {h : VH} : ∀ {cs : List VV}, (∀ x ∈ cs, x.1.ok = true ∧ x.1.atom = true) → All2 (relA h f) (cs.map vvTA) ((cs.map vvD).map .d)
  | [], _ => trivial
  | c :: cs, hc => ⟨vvTA_rel (hc c (by simp)).1 (hc c (by simp)).2, vvTAs_rel fun x hx => hc x (by simp [hx])⟩

theorem iosU_rel : ∀ {ns : List Nat} {ios : List (List VV)} {us : Ups} {vs : VSt} {st : St}, Rel nt f vs st → (∀ n ∈ ns, ∃ cells, hget vs.h n = .box cells) → (∀ c ∈ ios, ∀ x ∈ c, x.1.ok = true ∧ x.1.atom = true) → iosU ns ios = some us →
    UpsOk vs.h b us ∧ ∃ st2, afterIos st (ns.map f) (ios.map fun c => c.map vvD) = some st2 ∧ Rel nt f (vs.up us) st2
  | [], [], us, vs, st, h, _, _, hu => by simp [iosU] at hu; subst hu; exact ⟨UpsOk.nil, st, rfl, h⟩
  | n :: ns, c :: cs, us, vs, st, h, hn, hc, hu => by
    simp only [iosU] at hu
    split at hu
    case h_2 => simp at hu
    rename_i us' hu'
    simp only [Option.some.injEq] at hu; subst hu
    obtain ⟨cells, hs⟩ := hn n (by simp)
    have hR := h.set (n := n) (s := .box (c.map vvTA)) (ob := .box ((c.map vvD).map .d)) (HLe.set (by rw [hs]; exact .inr ⟨_, rfl⟩)) (by rw [hs]; rfl) rfl
      ⟨_, rfl, vvTAs_rel (hc c (by simp))⟩
    have hn' : ∀ m ∈ ns, ∃ cells, hget ((n, Slot.box (c.map vvTA)) :: vs.h) m = .box cells := by
      intro m hm
      rw [hget_cons]
      split
      · exact ⟨_, rfl⟩
      · exact hn m (by simp [hm])
    obtain ⟨h1, st2, h2, h3⟩ := iosU_rel hR hn' (fun c hc' => hc c (by simp [hc'])) hu'
    refine ⟨?_, st2, h2, h3⟩
    have h4 : UpsOk vs.h b [(n, Slot.box (c.map vvTA))] := UpsOk.one (.inl (by rw [hs]; simp))
    exact h4.append (UpsOk.later (us := [(n, Slot.box (c.map vvTA))]) h1 h4)
  | [], _ :: _, _, _, _, _, _, _, hu => by simp [iosU] at hu
  | _ :: _, [], _, _, _, _, _, _, hu => by simp [iosU] at hu

theorem retTA_rel : ∀ {rs : List VR} {b : Nat} {f : Nat → Nat} {vs : VSt} {st : St}, Rel nt f vs st → 4 ≤ b → rs.all VR.ok = true → (∀ n, b ≤ n → n < b + rs.length → hget vs.h n = .free) →
    (∀ u ∈ (retTA b rs).2, b ≤ u.1 ∧ u.1 < b + rs.length) ∧ ∃ f', HLe vs.h (hup vs.h (retTA b rs).2) f f' ∧ Rel nt f' (vs.up (retTA b rs).2) (retE st (rs.map VR.rv)).1 ∧ All2 (relA (hup vs.h (retTA b rs).2) f') (retTA b rs).1 (retE st (rs.map VR.rv)).2
  | [], b, f, vs, st, h, _, _, _ => ⟨by simp [retTA], f, HLe.refl _ _, h, trivial⟩
  | .v T x :: rs, b, f, vs, st, h, h4, hok, hb => by
    simp only [List.all_cons, Bool.and_eq_true] at hok
    obtain ⟨h1, f', h2, h3, h5⟩ := retTA_rel h h4 hok.2 (fun n h1 h2 => hb n h1 (by simp; omega))
    refine ⟨fun u hu => ?_, f', h2, ?_⟩
    · have := h1 u hu; simp only [List.length_cons]; omega
    have hT : T.ok = true := by have := hok.1; simp only [VR.ok, Bool.and_eq_true] at this; exact this.1
    have e1 : retE st ((VR.v T x :: rs).map VR.rv) = ((retE st (rs.map VR.rv)).1, vE T x :: (retE st (rs.map VR.rv)).2) := by
      cases T <;> rfl
    rw [e1]
    exact ⟨h3, ⟨hT, rfl⟩, h5⟩
  | .own T rows :: rs, b, f, vs, st, h, h4, hok, hb => by
    simp only [List.all_cons, Bool.and_eq_true] at hok
    have hT : T.ok = true := hok.1
    have hfree : hget vs.h b = .free := hb b (Nat.le_refl _) (by simp)
    have hR := h.new (ob := .arr T.w (rows.map T.cells)) hfree h4 (s := .arr T rows false) rfl ⟨hT, rfl⟩
    have hle0 : HLe vs.h ((b, Slot.arr T rows false) :: vs.h) f (fun m => if m = b then st.nx else f m) := HLe.new hfree
    obtain ⟨h1, f', h2, h3, h5⟩ := retTA_rel (b := b + 1) hR (by omega) hok.2 (fun n h1 h2 => by
      simp only
      rw [hget_ne _ _ (by omega)]
      exact hb n (by omega) (by simp; omega))
    refine ⟨fun u hu => ?_, f', hle0.trans h2, h3, ?_⟩
    · simp only [retTA, List.mem_cons] at hu
      rcases hu with rfl | hu
      · simp
      · have := h1 u hu; simp only [List.length_cons]; omega
    refine ⟨?_, h5⟩
    have h6 : relA ((b, Slot.arr T rows false) :: vs.h) (fun m => if m = b then st.nx else f m) (.own b none) (.own st.nx 0 rows.length) := by
      simp only [relA, hget_same]
      simp [segIn, segOff, segLen]
    have h7 := relA.mono h2 h6
    show relA _ f' (.own b none) (.own st.nx 0 (rows.map T.cells).length)
    rw [List.length_map]
    exact h7
  | .bx cells :: rs, b, f, vs, st, h, h4, hok, hb => by
    simp only [List.all_cons, Bool.and_eq_true] at hok
    have hc : ∀ x ∈ cells, x.1.ok = true ∧ x.1.atom = true := by
      intro x hx
      have := List.all_eq_true.mp hok.1 x hx
      simpa using this
    have hfree : hget vs.h b = .free := hb b (Nat.le_refl _) (by simp)
    have hR := h.new (ob := .box ((cells.map vvD).map .d)) hfree h4 (s := .box (cells.map vvTA)) rfl ⟨_, rfl, vvTAs_rel hc⟩
    have hle0 : HLe vs.h ((b, Slot.box (cells.map vvTA)) :: vs.h) f (fun m => if m = b then st.nx else f m) := HLe.new hfree
    obtain ⟨h1, f', h2, h3, h5⟩ := retTA_rel (b := b + 1) hR (by omega) hok.2 (fun n h1 h2 => by
      simp only
      rw [hget_ne _ _ (by omega)]
      exact hb n (by omega) (by simp; omega))
    refine ⟨fun u hu => ?_, f', hle0.trans h2, h3, ?_⟩
    · simp only [retTA, List.mem_cons] at hu
      rcases hu with rfl | hu
      · simp
      · have := h1 u hu; simp only [List.length_cons]; omega
    refine ⟨?_, h5⟩
    have h6 : relA ((b, Slot.box (cells.map vvTA)) :: vs.h) (fun m => if m = b then st.nx else f m) (.ptr b 0 0) (.ptr st.nx 0 0) := by
      simp only [relA, hget_same]
      simp
    exact relA.mono h2 h6

theorem relA_T {h : VH} {a : TA} {e : EV} (hr : relA h f a e) : relT h f a e := fun _ => hr
theorem pack_rel {h : VH} {as : List TA} {es : List EV} (hr : All2 (relA h f) as es) : relV h f (packTV as) (packE es) := by
  match as, es, hr with
  | [], [], _ => exact ⟨[], rfl, trivial⟩
  | [a], [e], h => exact h.1
  | a :: a' :: as, e :: e' :: es, h => exact ⟨_, rfl, h.mono fun _ _ => relA_T⟩

theorem vop_call (H : VOk ven ren) (h : Rel nt f vs st) (hb : ∀ n, b ≤ n → n < b + 8 → hget vs.h n = .free) (h4 : 4 ≤ b) {x : Operand} {args : Array Operand} {ats : Array TypeId} (ho : o.op = .call { callee := .value x, args := args, argTypes := ats }) (hk : vop ven b vs.h vs.t o K) : OpRes nt ven ren b vs st o K := by
  have hk' := hk
  simp only [vop, ho] at hk'
  have hx := vo_rel h x
  unfold vcallee at hk'
  split at hk'
  case h_2 => exact hk'.elim
  rename_i g hxv
  rw [hxv] at hx
  simp only [relA] at hx
  rw [chk_iff] at hk'
  obtain ⟨hlen, hk'⟩ := hk'
  unfold vcall at hk'
  split at hk'
  case h_2 => exact hk'.elim
  rename_i avs havs
  rw [chk_iff] at hk'
  obtain ⟨hc, hk'⟩ := hk'
  obtain ⟨h12, hokas⟩ := Bool.and_eq_true_iff.mp hc
  obtain ⟨hnd', hsol⟩ := Bool.and_eq_true_iff.mp h12
  have hnd := of_decide_eq_true hnd'
  obtain ⟨rs, ios, hk', hext, hlen8, hrok, hiok, hcon⟩ := H.call _ _ _ hk'
  split at hk'
  case h_2 => exact hk'.elim
  rename_i us2 hus2
  have hfr := H.fr g
  have h1 : Rel nt f (vs.up (frzAs (ven.fr g) vs.h (voTs ven.ty vs.t ats.toList args.toList))) (frzArgs (ven.fr g) st (evTs ren.ti st ats.toList args.toList)) :=
    frzAs_rel (ven.fr g) h hokas (solidL_relF hsol (voTs_rel H h _ _))
  have hargs1 := voTs_rel H h1 ats.toList args.toList
  obtain ⟨hE1, hE2, hE3⟩ := argsV_rel h1 (ven.fr g) hargs1 havs
  have hio : ∀ h h' : VH, ∀ as, ioV h as = ioV h' as := by
    intro h h' as
    induction as with
    | nil => rfl
    | cons a as ih => cases a <;> simp [ioV, ih]
  rw [hio _ vs.h] at hE2 hE3
  obtain ⟨hup2, st2, hst2, h2⟩ := iosU_rel (b := b) h1 hE3 hiok hus2
  have hbfree : ∀ n, b ≤ n → n < b + rs.length → hget ((vs.up (frzAs (ven.fr g) vs.h (voTs ven.ty vs.t ats.toList args.toList))).up us2).h n = .free := by
    intro n hn1 hn2
    have hf0 := hb n hn1 (by omega)
    cases hf : hget ((vs.up (frzAs (ven.fr g) vs.h (voTs ven.ty vs.t ats.toList args.toList))).up us2).h n with
    | free => rfl
    | _ =>
      exfalso
      have hne : hget (hup (hup vs.h (frzAs (ven.fr g) vs.h (voTs ven.ty vs.t ats.toList args.toList))) us2) n ≠ .free := by
        intro he; rw [show hget ((vs.up (frzAs (ven.fr g) vs.h (voTs ven.ty vs.t ats.toList args.toList))).up us2).h n = _ from he] at hf; simp at hf
      -- a name below n's block would have been taken before
      rw [← hup_append] at hne
      rcases taken_hup hne with h3 | ⟨u, hu, he⟩
      · exact h3 hf0
      · rcases List.mem_append.mp hu with hu | hu
        · have h5 : UpsOk vs.h (n + 1) (frzAs (ven.fr g) vs.h (voTs ven.ty vs.t ats.toList args.toList)) := UpsOk.frzAs _
          rcases h5 u hu with h6 | h6
          · rw [he] at h6; exact h6 hf0
          · omega
        · obtain ⟨h5, _⟩ := iosU_rel (b := n + 1) h1 hE3 hiok hus2
          have h6 := UpsOk.later h5 (UpsOk.frzAs _)
          rcases h6 u hu with h7 | h7
          · rw [he] at h7; exact h7 hf0
          · omega
  obtain ⟨hup3, f', hle3, h3, hall3⟩ := retTA_rel h2 h4 hrok hbfree
  refine ⟨_, _, hk', fun K' hk => ?_, ?_, fun KE hKE => ?_⟩
  · simp only [vop, ho, vcallee, hxv]
    rw [chk_iff]
    refine ⟨hlen, ?_⟩
    unfold vcall
    simp only [havs]
    rw [chk_iff]
    exact ⟨hc, hext _ (by rw [hus2]; exact hk)⟩
  · have hA : UpsOk vs.h b (frzAs (ven.fr g) vs.h (voTs ven.ty vs.t ats.toList args.toList)) := UpsOk.frzAs _
    refine (hA.append (UpsOk.later hup2 hA)).append fun u hu => .inr ?_
    have := hup3 u hu
    omega
  · simp only [EWop, ho, hx]
    refine ⟨trivial, trivial, of_decide_eq_true hlen, ?_⟩
    rw [← hfr]
    refine ⟨_, hE1, ?_, _, by rw [hfr]; exact hcon, ?_⟩
    · rw [hE2]
      -- different boxes have different names
      refine List.Nodup.of_map_inj ?_ hnd
      intro n m hn hm he
      obtain ⟨c1, hc1⟩ := hE3 n hn
      obtain ⟨c2, hc2⟩ := hE3 m hm
      exact h1.inj n m (by rw [hc1]; rfl) (by rw [hc2]; rfl) he
    · rintro r i ⟨rfl, rfl⟩
      rw [hE2]
      refine ⟨st2, hst2, ?_⟩
      refine hKE _ f' _ ?_ ?_
      · rw [up_append, up_append]; exact h3
      · rw [hup_append, hup_append]; exact pack_rel hall3
where
  List.Nodup.of_map_inj {l : List Nat} {g : Nat → Nat} (hg : ∀ n m, n ∈ l → m ∈ l → g n = g m → n = m) (hn : l.Nodup) : (l.map g).Nodup := by
    induction l with
    | nil => simp
    | cons a l ih =>
      simp only [List.nodup_cons, List.map_cons] at hn ⊢
      refine ⟨fun hm => ?_, ih (fun n m h1 h2 => hg n m (by simp [h1]) (by simp [h2])) hn.2⟩
      obtain ⟨c, hc, he⟩ := List.mem_map.mp hm
      have := hg c a (by simp [hc]) (by simp) he
      exact hn.1 (this ▸ hc)
end Go.RX

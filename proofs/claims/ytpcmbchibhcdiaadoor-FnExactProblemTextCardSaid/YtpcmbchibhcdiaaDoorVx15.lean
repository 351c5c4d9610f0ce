/- VX, part 15: the state of a shape stands for what the state stood for. -/
import Derived.Test.YtpcmbchibhcdiaaDoorVx14
namespace Go.RX
open Go

variable {nt : Nat} {f : Nat → Nat} {vs : VSt} {st : St}

theorem memN_iff {n : Nat} : ∀ {l : List Nat}, memN n l = true ↔ n ∈ l
  | [] => by simp [memN]
  | m :: l => by
    have ih := memN_iff (n := n) (l := l)
    by_cases h : n = m
    · subst h
      have : memN n (n :: l) = true := by
        show cond (Nat.beq n n) true (memN n l) = true
        rw [Nat.beq_refl]; rfl
      simp [this]
    · have hb : Nat.beq m n = false := by
        cases hb : Nat.beq m n with
        | false => rfl
        | true => exact absurd (Nat.eq_of_beq_eq_true hb).symm h
      have : memN n (m :: l) = memN n l := by
        show cond (Nat.beq m n) true (memN n l) = memN n l
        rw [hb]; rfl
      rw [this, ih, List.mem_cons]
      exact ⟨.inr, fun h1 => h1.resolve_left h⟩
theorem lk_mem {α : Type} : ∀ {l : List (Nat × α)} {n : Nat} {x : α}, lk l n = some x → (n, x) ∈ l
  | [], _, _, h => by simp [lk] at h
  | p :: l, n, x, h => by
    obtain ⟨m, y⟩ := p
    rw [lk_cons] at h
    split at h
    · rename_i he; subst he; simp at h; subst h; simp
    · exact List.mem_cons_of_mem _ (lk_mem h)
theorem lk_some_of_mem {α : Type} : ∀ {l : List (Nat × α)} {n : Nat} {x : α}, (n, x) ∈ l → ∃ y, lk l n = some y
  | [], _, _, h => by simp at h
  | p :: l, n, x, h => by
    obtain ⟨m, y⟩ := p
    rw [lk_cons]
    split
    · exact ⟨y, rfl⟩
    · rename_i hne
      simp only [List.mem_cons, Prod.mk.injEq] at h
      rcases h with ⟨h1, _⟩ | h
      · exact absurd h1.symm hne
      · exact lk_some_of_mem h
theorem lk_append {α : Type} : ∀ {l m : List (Nat × α)} {n : Nat} {x : α}, lk l n = some x → lk (l ++ m) n = some x
  | [], _, _, _, h => by simp [lk] at h
  | p :: l, m, n, x, h => by
    obtain ⟨k, y⟩ := p
    rw [List.cons_append, lk_cons]
    rw [lk_cons] at h
    split
    · rename_i he; rw [if_pos he] at h; exact h
    · rename_i he; rw [if_neg he] at h; exact lk_append h

theorem mapOk1_spec {p : Nat × Nat} : ∀ {mp : SMap}, mapOk1 p mp = true → ∀ q ∈ mp, (p.1 = q.1 ↔ p.2 = q.2)
  | [], _, q, hq => by simp at hq
  | r :: mp, h, q, hq => by
    simp only [mapOk1, Bool.and_eq_true, beq_iff_eq] at h
    simp only [List.mem_cons] at hq
    rcases hq with rfl | hq
    · have h1 := h.1
      constructor
      · intro he
        have : Nat.beq p.1 q.1 = true := by rw [he]; exact Nat.beq_refl _
        rw [this] at h1
        exact Nat.eq_of_beq_eq_true h1.symm
      · intro he
        have : Nat.beq p.2 q.2 = true := by rw [he]; exact Nat.beq_refl _
        rw [this] at h1
        exact Nat.eq_of_beq_eq_true h1
    · exact mapOk1_spec h.2 q hq
theorem mapOk_spec {keys : List (Nat × SO)} : ∀ {mp : SMap}, mapOk keys mp = true → (∀ p ∈ mp, ∀ q ∈ mp, (p.1 = q.1 ↔ p.2 = q.2)) ∧ (∀ p ∈ mp, ((4 ≤ p.1 ∧ 4 ≤ p.2) ∨ p.1 = p.2) ∧ p.1 ∈ keys.map (·.1))
  | [], _ => ⟨by simp, by simp⟩
  | r :: mp, h => by
    simp only [mapOk, Bool.and_eq_true, Bool.or_eq_true] at h
    obtain ⟨⟨⟨h1, h2⟩, h3⟩, h4⟩ := h
    obtain ⟨h5, h6⟩ := mapOk_spec h4
    have h7 := mapOk1_spec h1
    refine ⟨fun p hp q hq => ?_, fun p hp => ?_⟩
    · simp only [List.mem_cons] at hp hq
      rcases hp with rfl | hp <;> rcases hq with rfl | hq
      · simp
      · exact h7 q hq
      · have := h7 p hp
        exact ⟨fun he => (this.mp he.symm).symm, fun he => (this.mpr he.symm).symm⟩
      · exact h5 p hp q hq
    · simp only [List.mem_cons] at hp
      rcases hp with rfl | hp
      · refine ⟨?_, memN_iff.mp h3⟩
        rcases h2 with ⟨a, b⟩ | h2
        · exact .inl ⟨Nat.le_of_ble_eq_true a, Nat.le_of_ble_eq_true b⟩
        · exact .inr (Nat.eq_of_beq_eq_true h2)
      · exact h6 p hp
theorem keysOk_spec {nx : Nat} {mp : SMap} : ∀ {l : List (Nat × SO)}, keysOk nx mp l = true → (l.map (·.1)).Nodup ∧ ∀ p ∈ l, p.1 < nx ∧ ∃ m, lk mp p.1 = some m
  | [], _ => ⟨by simp, by simp⟩
  | p :: l, h => by
    simp only [keysOk, Bool.and_eq_true, Bool.not_eq_true'] at h
    obtain ⟨⟨⟨h1, h2⟩, h3⟩, h4⟩ := h
    obtain ⟨h5, h6⟩ := keysOk_spec h4
    refine ⟨?_, fun q hq => ?_⟩
    · simp only [List.map_cons, List.nodup_cons]
      refine ⟨fun hm => ?_, h5⟩
      have := memN_iff.mpr hm
      rw [this] at h3; simp at h3
    · simp only [List.mem_cons] at hq
      rcases hq with rfl | hq
      · exact ⟨Nat.lt_of_succ_le (Nat.le_of_ble_eq_true h1), Option.isSome_iff_exists.mp h2⟩
      · exact h6 q hq
theorem boxesOk_spec {mp1 : SMap} : ∀ {l : List (Nat × SO)}, boxesOk mp1 l = true → ∀ n cells, (n, SO.box cells) ∈ l → ∃ m, lk mp1 n = some m
  | [], _, n, cells, h => by simp at h
  | (k, .box c) :: l, h, n, cells, hm => by
    simp only [boxesOk, Bool.and_eq_true] at h
    simp only [List.mem_cons, Prod.mk.injEq] at hm
    rcases hm with ⟨rfl, _⟩ | hm
    · exact Option.isSome_iff_exists.mp h.1
    · exact boxesOk_spec h.2 n cells hm
  | (k, .arr T) :: l, h, n, cells, hm => by
    simp only [List.mem_cons, Prod.mk.injEq] at hm
    rcases hm with ⟨_, hm⟩ | hm
    · cases hm
    · exact boxesOk_spec (show boxesOk mp1 l = true from h) n cells hm
  | (k, .frz T) :: l, h, n, cells, hm => by
    simp only [List.mem_cons, Prod.mk.injEq] at hm
    rcases hm with ⟨_, hm⟩ | hm
    · cases hm
    · exact boxesOk_spec (show boxesOk mp1 l = true from h) n cells hm

theorem arrDec_ext {T : Ty} {fz : Bool} {K : List T.den → Prop} {s : Slot} (hk : arrDec T fz K s) : ∃ x : List T.den, s = .arr T x fz ∧ K x ∧ ∀ K' : List T.den → Prop, K' x → arrDec T fz K' s := by
  unfold arrDec at hk
  split at hk
  · rename_i T' rows fz'
    obtain ⟨h1, hk⟩ := chk_iff.mp hk
    obtain ⟨he, h2, h3⟩ := castD_ext hk
    have he' : T' = T := by injection he
    subst he'
    have : fz' = fz := by simpa using h1
    subst this
    exact ⟨rows, rfl, h2, fun K' hk => chk_iff.mpr ⟨h1, h3 K' hk⟩⟩
  · exact hk.elim

theorem hDec_ext (h : Rel nt f vs st) {mp mp1 : SMap} : ∀ {l : List (Nat × SO)} {K : hDen l → Prop}, (∀ n cells, (n, SO.box cells) ∈ l → lk mp1 n = some (mget mp n)) → (l.map (·.1)).Nodup → hDec vs.h mp l K →
    ∃ x, K x ∧ (∀ K' : hDen l → Prop, K' x → hDec vs.h mp l K') ∧ (∀ n, n ∉ l.map (·.1) → hget (hEnc l x) n = .free) ∧
      ∀ n, n ∈ l.map (·.1) → slotSame (hget (hEnc l x) n) (hget vs.h (mget mp n)) ∧
        ∀ (hE : VH) (f' : Nat → Nat), f' n = f (mget mp n) → MapR (srcH vs.h mp1 l) vs.h hE f f' → relS hE f' st n (hget (hEnc l x) n)
  | [], K, _, _, hk => ⟨(), hk, fun K' hk => hk, fun n _ => rfl, fun n hn => by simp at hn⟩
  | (k, .arr T) :: l, K, hb, hnd, hk => by
    simp only [List.map_cons, List.nodup_cons] at hnd
    obtain ⟨x, hs, hk1, hx1⟩ := arrDec_ext (show arrDec T false (fun x => hDec vs.h mp l fun r => K (x, r)) (hget vs.h (mget mp k)) from hk)
    obtain ⟨y, hk2, hx2, h3, h4⟩ := hDec_ext h (fun n cells hm => hb n cells (by simp [hm])) hnd.2 hk1
    refine ⟨(x, y), hk2, fun K' hk => hx1 _ (hx2 _ hk), fun n hn => ?_, fun n hn => ?_⟩
    · simp only [List.map_cons, List.mem_cons, not_or] at hn
      simp only [hEnc]
      rw [hget_ne _ _ (fun he => hn.1 he.symm)]
      exact h3 n hn.2
    · simp only [hEnc]
      by_cases he : k = n
      · subst he
        rw [hget_same]
        refine ⟨hs, fun hE f' hf hm => ⟨relS.ok h hs, fun _ => ?_⟩⟩
        rw [hf]
        exact relS.arr h hs
      · rw [hget_ne _ _ he]
        simp only [List.map_cons, List.mem_cons] at hn
        rcases hn with hn | hn
        · exact absurd hn.symm he
        · exact h4 n hn
  | (k, .frz T) :: l, K, hb, hnd, hk => by
    simp only [List.map_cons, List.nodup_cons] at hnd
    obtain ⟨x, hs, hk1, hx1⟩ := arrDec_ext (show arrDec T true (fun x => hDec vs.h mp l fun r => K (x, r)) (hget vs.h (mget mp k)) from hk)
    obtain ⟨y, hk2, hx2, h3, h4⟩ := hDec_ext h (fun n cells hm => hb n cells (by simp [hm])) hnd.2 hk1
    refine ⟨(x, y), hk2, fun K' hk => hx1 _ (hx2 _ hk), fun n hn => ?_, fun n hn => ?_⟩
    · simp only [List.map_cons, List.mem_cons, not_or] at hn
      simp only [hEnc]
      rw [hget_ne _ _ (fun he => hn.1 he.symm)]
      exact h3 n hn.2
    · simp only [hEnc]
      by_cases he : k = n
      · subst he
        rw [hget_same]
        exact ⟨hs, fun hE f' hf hm => ⟨relS.ok h hs, fun hz => by simp at hz⟩⟩
      · rw [hget_ne _ _ he]
        simp only [List.map_cons, List.mem_cons] at hn
        rcases hn with hn | hn
        · exact absurd hn.symm he
        · exact h4 n hn
  | (k, .box cells) :: l, K, hb, hnd, hk => by
    simp only [List.map_cons, List.nodup_cons] at hnd
    have hk0 : boxDec vs.h cells (fun x => hDec vs.h mp l fun r => K (x, r)) (hget vs.h (mget mp k)) := hk
    have hk0' := hk0
    unfold boxDec at hk0
    split at hk0
    case h_2 => exact hk0.elim
    rename_i cs hs
    obtain ⟨hlt, es, hob, hall⟩ := relS.box h hs
    -- the names are the same whatever the new memory
    obtain ⟨x, hk1, hx1, _⟩ := cDec_ext (hE := vs.h) (f' := f) h hall hk0
    obtain ⟨y, hk2, hx2, h3, h4⟩ := hDec_ext h (fun n cells hm => hb n cells (by simp [hm])) hnd.2 hk1
    refine ⟨(x, y), hk2, fun K' hk => ?_, fun n hn => ?_, fun n hn => ?_⟩
    · show boxDec vs.h cells _ (hget vs.h (mget mp k))
      rw [hs]
      exact hx1 _ (hx2 _ hk)
    · simp only [List.map_cons, List.mem_cons, not_or] at hn
      simp only [hEnc]
      rw [hget_ne _ _ (fun he => hn.1 he.symm)]
      exact h3 n hn.2
    · simp only [hEnc]
      have hmk : lk mp1 k = some (mget mp k) := hb k cells (by simp)
      by_cases he : k = n
      · subst he
        rw [hget_same]
        refine ⟨by rw [hs]; trivial, fun hE f' hf hm => ?_⟩
        refine ⟨by rw [hf]; exact hlt, es, by rw [hf]; exact hob, ?_⟩
        -- the same tuple, told once more
        have hk3 : cDec vs.h cells cs (fun z => z = x) := hx1 _ rfl
        obtain ⟨z, hz, _, hrel⟩ := cDec_ext (hE := hE) (f' := f') h hall hk3
        subst hz
        refine hrel ?_
        have hm1 := hm.left
        simp only [hmk, srcB, hs] at hm1
        exact hm1
      · rw [hget_ne _ _ he]
        simp only [List.map_cons, List.mem_cons] at hn
        rcases hn with hn | hn
        · exact absurd hn.symm he
        · obtain ⟨h5, h6⟩ := h4 n hn
          exact ⟨h5, fun hE f' hf hm => h6 hE f' hf hm.right⟩

theorem dec1_ext {sh : Shape} (h : Rel nt f vs st) {K : sh.den → Prop} (hk : sh.dec1 vs K) :
    ∃ x, K x ∧ (∀ K' : sh.den → Prop, K' x → sh.dec1 vs K') ∧ Top (sh.enc x) ∧ ∃ f', Rel nt f' (sh.enc x) st := by
  unfold Shape.dec1 at hk
  obtain ⟨hc, hk⟩ := chk_iff.mp hk
  have hc' := hc
  simp only [Bool.and_eq_true] at hc'
  obtain ⟨⟨⟨hnx, hmap⟩, hkeys⟩, hboxes⟩ := hc'
  obtain ⟨hm1, hm2⟩ := mapOk_spec hmap
  obtain ⟨hnd, hk2⟩ := keysOk_spec hkeys
  have hmg : ∀ n m, lk (sh.mp vs) n = some m → mget (sh.mp vs) n = m := fun n m hl => by simp [mget, hl]
  have hboxk : ∀ n cells, (n, SO.box cells) ∈ sh.h → lk (sh.mp1 vs) n = some (mget (sh.mp vs) n) := by
    intro n cells hm
    obtain ⟨m, hl⟩ := boxesOk_spec hboxes n cells hm
    have : lk (sh.mp vs) n = some m := lk_append hl
    rw [hmg n m this]; exact hl
  -- first any memory, to get the tuples
  obtain ⟨x0, hkx0, hx0, _⟩ := tDec_ext (hE := vs.h) (f' := f) h hk
  obtain ⟨y, hky, hy, hfree, hslots⟩ := hDec_ext (mp1 := sh.mp1 vs) h hboxk hnd hkx0
  let f' : Nat → Nat := fun n => match lk (sh.mp vs) n with | some m => f m | none => n
  have hf' : ∀ n m, lk (sh.mp vs) n = some m → f' n = f m := fun n m hl => by simp [f', hl]
  have hlkm : ∀ p ∈ sh.mp vs, lk (sh.mp vs) p.1 = some p.2 := by
    intro p hp
    obtain ⟨m, hl⟩ := lk_some_of_mem (n := p.1) (x := p.2) hp
    have h1 := (hm1 p hp (p.1, m) (lk_mem hl)).mp rfl
    rw [hl]; simp at h1; rw [h1]
  have hMap : MapR (sh.mp vs) vs.h (hEnc sh.h y) f f' := by
    intro p hp
    have hl := hlkm p hp
    refine ⟨hf' _ _ hl, ?_⟩
    have h2 := (hslots p.1 (hm2 p hp).2).1
    rw [hmg _ _ hl] at h2
    exact h2
  -- the temporaries, over this memory
  have hk3 : tDec vs.h vs.t sh.t (fun z => z = x0) := hx0 _ rfl
  obtain ⟨z, hz, _, htr⟩ := tDec_ext (hE := hEnc sh.h y) (f' := f') h hk3
  subst hz
  refine ⟨(z, y), hky, fun K' hk => ?_, ⟨Nat.le_of_ble_eq_true hnx, fun n hn => ?_⟩, f', ?_⟩
  · unfold Shape.dec1
    rw [chk_iff]
    exact ⟨hc, hx0 _ (hy _ hk)⟩
  · refine hfree n (fun hm => ?_)
    obtain ⟨p, hp, rfl⟩ := List.mem_map.mp hm
    have := (hk2 p hp).1
    have hn' : sh.nx ≤ p.1 := hn
    omega
  · have hkeyl : ∀ n, n ∈ sh.h.map (·.1) → ∃ m, lk (sh.mp vs) n = some m := by
      intro n hm
      obtain ⟨p, hp, rfl⟩ := List.mem_map.mp hm
      exact (hk2 p hp).2
    have hliven : ∀ n, live (hget (hEnc sh.h y) n) = true → n ∈ sh.h.map (·.1) := by
      intro n hl
      by_cases hm : n ∈ sh.h.map (·.1)
      · exact hm
      · rw [hfree n hm] at hl; simp [live] at hl
    have hlive2 : ∀ n, live (hget (hEnc sh.h y) n) = true → live (hget vs.h (mget (sh.mp vs) n)) = true := by
      intro n hl
      have h1 := (hslots n (hliven n hl)).1
      cases hh : hget (hEnc sh.h y) n with
      | free => rw [hh] at hl; simp [live] at hl
      | gone => rw [hh] at hl; simp [live] at hl
      | arr T rows fz =>
        rw [hh] at h1 hl
        rw [show hget vs.h (mget (sh.mp vs) n) = .arr T rows fz from h1]; exact hl
      | box c =>
        rw [hh] at h1
        cases hm : hget vs.h (mget (sh.mp vs) n) with
        | box c' => rfl
        | _ => rw [hm] at h1; exact h1.elim
    refine ⟨?_, h.nt, ?_, ?_, ?_, h.nx⟩
    · intro i v hv
      exact htr (fun p hp => hMap p (by unfold Shape.mp Shape.mp1; simp [hp])) i v hv
    · intro n
      show relS (hEnc sh.h y) f' st n (hget (hEnc sh.h y) n)
      by_cases hm : n ∈ sh.h.map (·.1)
      · obtain ⟨m, hl⟩ := hkeyl n hm
        refine (hslots n hm).2 (hEnc sh.h y) f' (by rw [hf' n m hl, hmg n m hl]) (fun p hp => hMap p (by unfold Shape.mp; simp [hp]))
      · rw [hfree n hm]; trivial
    · intro n m hn hm he
      obtain ⟨a, ha⟩ := hkeyl n (hliven n hn)
      obtain ⟨c, hc⟩ := hkeyl m (hliven m hm)
      have h1 := hlive2 n hn
      have h2 := hlive2 m hm
      rw [hmg n a ha] at h1
      rw [hmg m c hc] at h2
      rw [hf' n a ha, hf' m c hc] at he
      have hac := h.inj a c h1 h2 he
      exact (hm1 (n, a) (lk_mem ha) (m, c) (lk_mem hc)).mpr hac
    · intro n hn
      show f' n = n
      cases hl : lk (sh.mp vs) n with
      | none => simp [f', hl]
      | some m =>
        rw [hf' n m hl]
        rcases (hm2 (n, m) (lk_mem hl)).1 with h1 | h1
        · have := h1.1; simp at this; omega
        · have : n = m := h1
          rw [← this]; exact h.io n hn

theorem dec_ext {sh : Shape} (h : Rel nt f vs st) (ht : Top vs) {K : sh.den → Prop} (hk : sh.dec vs K) :
    ∃ x, K x ∧ (∀ K' : sh.den → Prop, K' x → sh.dec vs K') ∧ Top (sh.enc x) ∧ ∃ st' f', st.Le st' ∧ Rel nt f' (sh.enc x) st' := by
  obtain ⟨f1, st1, h1, h2, _⟩ := nilFix_rel (l := sh.t) h ht
  obtain ⟨x, h3, h4, h5, f', h6⟩ := dec1_ext h2 (show sh.dec1 (nilFix sh.t vs) K from hk)
  exact ⟨x, h3, h4, h5, st1, f', h1, h6⟩
end Go.RX

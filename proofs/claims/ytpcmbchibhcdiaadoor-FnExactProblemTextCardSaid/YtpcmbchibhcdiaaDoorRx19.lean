/- RX, part 19: the transformer of code, and contracts out of it. -/
import Derived.Test.YtpcmbchibhcdiaaDoorRx30
namespace Go.RX
open Go

def EWops (en : En) (all : Array Oper) : List Oper → (St → Prop) → St → Prop
  | [], K, st => K st
  | o :: os, K, st => match o.guard with
    | none => EWop en o st (EWops en all os K)
    | some (j, want) => ∃ b, guardE all st j = some b ∧ (b = want → EWop en o st (EWops en all os K)) ∧ (b = !want → EWops en all os K (st.put o.dst .dead))

/-- one state tells no more than another -/
def St.Le (st st' : St) : Prop := ∀ G w0 io a w β, (∀ p ∈ io, p.1 < 4) → SimB G w0 io st a w β → ∃ β', SimB G w0 io st' a w β'
theorem St.Le.refl (st : St) : st.Le st := fun _ _ _ _ _ β _ h => ⟨β, h⟩
theorem St.Le.trans {a b c : St} (h1 : a.Le b) (h2 : b.Le c) : a.Le c := fun G w0 io x w β hio h => by
  obtain ⟨β', h'⟩ := h1 G w0 io x w β hio h
  exact h2 G w0 io x w β' hio h'

/-- a call that writes nothing and yields one plain value -/
def EWqcall (en : En) (f : FuncId) (ts : List TypeId) (xs : List Operand) (dst : Option Tmp) (st : St) (K : St → Prop) : Prop :=
  ts.length = xs.length ∧
  let st1 := frzArgs (en.fr f) st (evTs en.ti st ts xs)
  ∃ avs, argsE (en.fr f) st1 (evTs en.ti st1 ts xs) = some avs ∧ ioNames (evTs en.ti st1 ts xs) = [] ∧
    ∃ post, Con en.P en.W0 f (en.fr f) avs post ∧ ∃ x : Value, x.oneCell' = true ∧ (∀ rs ios, post rs ios → rs = [.d (.im x)] ∧ ios = []) ∧ K (st1.put dst (.d (.im x)))
def EWqop (en : En) (o : Oper) (st : St) (K : St → Prop) : Prop :=
  match o.op with
  | .call { callee := .value (.func f), args, argTypes } => EWqcall en f argTypes.toList args.toList o.dst st K
  | _ => rdOp o.op = true ∧ EWop en o st K
def EWqops (en : En) (all : Array Oper) : List Oper → (St → Prop) → St → Prop
  | [], K, st => K st
  | o :: os, K, st => match o.guard with
    | none => EWqop en o st (EWqops en all os K)
    | some (j, want) => ∃ b, guardE all st j = some b ∧ (b = want → EWqop en o st (EWqops en all os K)) ∧ (b = !want → EWqops en all os K (st.put o.dst .dead))

def EW (en : En) : Code → (Exit → St → Prop) → St → Prop
  | .skip, Q, st => Q .normal st
  | .region _ ops draw, Q, st => if draw then (Region.lexB .any ops = true ∧ EWqops en ops ops.toList (Q .normal) st) ∨ (∃ p, Region.noSelect ops = true ∧ planOk ops p true ops.size (Array.replicate ops.size false) = true ∧ EWplan en ops p (Q .normal) st) else EWops en ops ops.toList (Q .normal) st
  | .seq x y, Q, st => EW en x (fun e st => match e with | .normal => EW en y Q st | e => Q e st) st
  | .cond c x y, Q, st => match ev st c with
    | .d (.im (.bool b)) => (b = true → EW en x Q st) ∧ (b = false → EW en y Q st)
    | _ => False
  | .block id c, Q, st => EW en c (fun e st => match e with | .exit i => if i = id then Q .normal st else Q (.exit i) st | e => Q e st) st
  | .loop c, Q, st => ∃ (I N : Nat → St → Prop) (n : Nat), (∃ st0, st.Le st0 ∧ I n st0) ∧ (∀ n st, N n st → ∃ m st0, m < n ∧ st.Le st0 ∧ I m st0) ∧ ∀ n st, I n st → EW en c (fun e st => match e with | .normal => N n st | e => Q e st) st
  | .exit id, Q, st => Q (.exit id) st
  | .ret, Q, st => Q .ret st
  | .label _, Q, st => Q .normal st
  | _, _, _ => False

section
variable {G : Nat → Prop} {w0 : World} {io : List (Nat × Nat)}

def NxE (G : Nat → Prop) (w0 : World) (io : List (Nat × Nat)) (Q : Exit → St → Prop) (e : Exit) (a : Act) (w : World) : Prop := ∃ st β, Q e st ∧ SimB G w0 io st a w β

theorem EWops_sound {en : En} (H : TIok en.P en.ti) (hW : Ext en.W0 w0) (hio : ∀ b ∈ ioB io, en.W0.heap.size ≤ b) {all : Array Oper} {Q : Exit → St → Prop} : ∀ {os : List Oper} {st : St} {a : Act} {w : World} {β : Beta},
    SimB G w0 io st a w β → EWops en all os (Q .normal) st → wpList en.P all (NxE G w0 io Q) os a w
  | [], st, a, w, β, h, hk => ⟨st, β, hk, h⟩
  | o :: os, st, a, w, β, h, hk => by
    simp only [EWops] at hk
    simp only [wpList]
    have step : EWop en o st (EWops en all os (Q .normal)) → o.wp en.P a w (wpList en.P all (NxE G w0 io Q) os) (NxE G w0 io Q) := fun hk =>
      Oper.wp_mono (fun a w ⟨st, β, h1, h2⟩ => EWops_sound H hW hio h2 h1) (op_sound H h hW hio hk)
    split at hk
    · rename_i hg
      rw [if_pos (by simp [Region.wanted, hg])]
      exact .inl (step hk)
    · rename_i j want hg
      obtain ⟨b, hb, hk⟩ := hk
      have hy := yielded_rel h hb
      by_cases hbw : b = want
      · rw [if_pos (by simp [Region.wanted, hg, hy, hbw])]
        exact .inl (step (hk.1 hbw))
      · rw [if_neg (by simp [Region.wanted, hg, hy, hbw])]
        exact EWops_sound H hW hio (put_rel h (by simp [EVR])) (hk.2 (by cases b <;> cases want <;> simp_all))

theorem grow_rel {st : St} {a : Act} {w w' : World} {β : Beta} (h : SimB G w0 io st a w β) (hk : Keeps w w') (hs' : WLe w w') : SimB G w0 io st a w' β := by
  have hs := hs'.1
  have hsf : ∀ b, SafeOf G w β st.o b → SafeOf G w' β st.o b := fun b hb => ⟨Nat.lt_of_lt_of_le hb.1 hs, hb.2⟩
  have hle : (cxOf G w β st).Le (cxOf G w' β st) :=
    ⟨fun b hb => ⟨hsf b hb, hk b hb.1⟩, Nat.le_refl _, fun m ob' _ hm => ⟨ob', hm, rfl, rfl, fun sz rows he => ⟨rows, he, Nat.le_refl _⟩⟩,
      fun m ob b base k _ _ _ hkk => by obtain ⟨cs, T, h1, h2⟩ := hkk; exact ⟨cs, T, hk.block h1, h2⟩⟩
  refine ⟨h.gset, fun b hb => h.gnew b (Nat.le_trans hs hb), h.ion, h.defers, EVRs.mono hle _ _ h.tmps, ?_, fun n ob b base h1 h2 => ⟨(h.mine n ob b base h1 h2).1, Nat.lt_of_lt_of_le (h.mine n ob b base h1 h2).2 hs⟩, h.apart, h.names, ⟨Nat.le_trans h.grown.1 hs, hs'.2.1.trans h.grown.2.1, hs'.2.2.trans h.grown.2.2⟩, fun b h1 h2 => by
    rw [hk b (Nat.lt_of_lt_of_le h1 h.grown.1)]; exact h.keep b h1 h2⟩
  intro n ob hob
  have := h.objs n ob hob
  cases ob with
  | arr sz rows =>
    obtain ⟨h1, h2⟩ := this
    refine ⟨h1, ?_⟩
    have h2' : match β n with | none => _ | some (b, base) => _ := h2
    show match β n with | none => _ | some (b, base) => _
    cases hb : β n with
    | none => rw [hb] at h2'; exact h2'
    | some p =>
      obtain ⟨b, base⟩ := p
      rw [hb] at h2'
      obtain ⟨cs, T, h3, h4, h5⟩ := h2'
      refine ⟨cs, T, hk.block h3, h4, fun i j r x hr hx => ?_⟩
      obtain ⟨v, h6, h7⟩ := h5 i j r x hr hx
      exact ⟨v, h6, h7.mono hle.safe⟩
  | box cells =>
    obtain ⟨b, cs, T, h1, h2, h3⟩ := this
    exact ⟨b, cs, T, h1, hk.block h2, EVRs.mono hle _ _ h3⟩

/-- the worlds in which the blocks of w stand -/
def From (w w' : World) : Prop := Keeps w w' ∧ WLe w w'

theorem qop_sound {en : En} (H : TIok en.P en.ti) (hW : Ext en.W0 w0) (hio : ∀ b ∈ ioB io, en.W0.heap.size ≤ b) {o : Oper} {K : St → Prop} {st : St} {a : Act} {w : World} {β : Beta}
    (h : SimB G w0 io st a w β) (hk : EWqop en o st K) : o.quiet en.P a (From w) (fun a' => Nx G w0 io K a' w) := by
  have rd : rdOp o.op = true → EWop en o st K → o.quiet en.P a (From w) (fun a' => Nx G w0 io K a' w) := by
    intro h1 h2
    obtain ⟨v, hr, hn⟩ := op_read_sound H h h1 h2
    refine ⟨v, fun w' hw' => ?_, hn⟩
    unfold Oper.quietAt
    rw [hr w' hw'.1]
    exact ⟨rfl, rfl⟩
  unfold EWqop at hk
  split at hk
  case h_2 => exact rd hk.1 hk.2
  rename_i f args argTypes ho
  unfold EWqcall at hk
  obtain ⟨hl, hk⟩ := hk
  obtain ⟨avs, ha, hnd, post, hcon, x, hx1, hpost, hK⟩ := hk
  let st1 := frzArgs (en.fr f) st (evTs en.ti st argTypes.toList args.toList)
  have h1 : SimB G w0 io st1 a w β := frzArgs_rel h
  refine ⟨x, ?_, ?_⟩
  · intro w' hw'
    have h2 : SimB G w0 io st1 a w' β := grow_rel h1 hw'.1 hw'.2
    have hev : EVRs (cxOf G w' β st1) (evTs en.ti st1 argTypes.toList args.toList) (args.toList.map a.eval) := evTs_rel h2 en.ti hl
    obtain ⟨hargs, _⟩ := args_rel (fresh := en.fr f) h2 hev ha
    rw [hnd] at hargs
    have hExt : Ext en.W0 w' := by
      refine ⟨Nat.le_trans hW.1 h2.grown.1, fun b hb => ?_⟩
      have hb0 : b < w0.heap.size := Nat.lt_of_lt_of_le hb hW.1
      rw [h2.keep b hb0 (fun hi => by have := hio b hi; omega)]
      exact hW.2 b hb
    unfold Oper.quietAt
    have hrun : (execOp a.eval o).run en.P w' = .ok (.enter f (args.map a.eval)) w' := by
      simp [execOp, ho, resolve, Deferred.ofValue, Act.eval, invoke, callFunc_run hcon.1]
    rw [hrun]
    refine ⟨rfl, ?_⟩
    have e1 : (args.toList.map a.eval).toArray = args.map a.eval := by apply Array.ext'; simp
    rw [← e1]
    refine (hcon.2 w' (Reach G w' β st1.o (en.fr f)) _ [] hExt (by simp) (by simp) ?_ (by simpa [iobOf] using hargs)).mono ?_
    · rintro b (hs | ⟨_, m, sz, rows, base, h4, h5⟩)
      · exact hs.1
      · exact (h2.mine m _ b base h4 h5).2
    · rintro e w'' ⟨rs, ios, vs, obs, hp, rfl, hsz, hkeep, -, -, -, -, hress⟩
      obtain ⟨rfl, rfl⟩ := hpost rs ios hp
      have : packV vs = x := by
        cases vs with
        | nil => simp [RessR] at hress
        | cons v vs =>
          cases vs with
          | cons u us => simp [RessR] at hress
          | nil =>
            simp only [RessR] at hress
            obtain ⟨b1, b2, _, ⟨hr, _⟩, _⟩ := hress
            cases hr
            rfl
      rw [this]
      refine ⟨rfl, fun b hb => ?_, ⟨Nat.le_trans hw'.2.1 hsz.1, hsz.2.1.trans hw'.2.2.1, hsz.2.2.trans hw'.2.2.2⟩⟩
      rw [hkeep b (Nat.lt_of_lt_of_le hb hw'.2.1) (by simp)]
      exact hw'.1 b hb
  · refine ⟨_, β, hK, put_rel h1 ?_⟩
    exact evr_mk hx1

theorem EWqops_sound {en : En} (H : TIok en.P en.ti) (hW : Ext en.W0 w0) (hio : ∀ b ∈ ioB io, en.W0.heap.size ≤ b) {all : Array Oper} {Q : Exit → St → Prop} {w : World} : ∀ {os : List Oper} {st : St} {a : Act} {β : Beta},
    SimB G w0 io st a w β → EWqops en all os (Q .normal) st → wpQuiet en.P all (From w) (fun a' => ∀ w', From w w' → NxE G w0 io Q .normal a' w') os a
  | [], st, a, β, h, hk => fun w' hw' => ⟨st, β, hk, grow_rel h hw'.1 hw'.2⟩
  | o :: os, st, a, β, h, hk => by
    simp only [EWqops] at hk
    simp only [wpQuiet]
    have step : EWqop en o st (EWqops en all os (Q .normal)) → o.quiet en.P a (From w) (wpQuiet en.P all (From w) (fun a' => ∀ w', From w w' → NxE G w0 io Q .normal a' w') os) := fun hk =>
      Oper.quiet_mono (fun a ⟨st, β, h1, h2⟩ => EWqops_sound H hW hio h2 h1) (qop_sound H hW hio h hk)
    split at hk
    · rename_i hg
      rw [if_pos (by simp [Region.wanted, hg])]
      exact step hk
    · rename_i j want hg
      obtain ⟨b, hb, hk⟩ := hk
      have hy := yielded_rel h hb
      by_cases hbw : b = want
      · rw [if_pos (by simp [Region.wanted, hg, hy, hbw])]
        exact step (hk.1 hbw)
      · rw [if_neg (by simp [Region.wanted, hg, hy, hbw])]
        exact EWqops_sound H hW hio (put_rel h (by simp [EVR])) (hk.2 (by cases b <;> cases want <;> simp_all))

theorem EW_sound {en : En} (H : TIok en.P en.ti) (hW : Ext en.W0 w0) (hio : ∀ b ∈ ioB io, en.W0.heap.size ≤ b) (h4 : ∀ p ∈ io, p.1 < 4) (hm : en.P.follows .mixedOrders = true) : ∀ (c : Code) {Q : Exit → St → Prop} {st : St} {a : Act} {w : World} {β : Beta},
    SimB G w0 io st a w β → EW en c Q st → c.wp en.P (NxE G w0 io Q) a w := by
  intro c
  induction c with
  | skip => intro Q st a w β h hk; exact wp_skip ⟨st, β, hk, h⟩
  | region id ops draw =>
    intro Q st a w β h hk
    simp only [EW] at hk
    split at hk
    · rename_i hd
      subst hd
      rcases hk with ⟨hB, hk⟩ | ⟨p, hs, hp, hk⟩
      · exact wp_region_quiet (C := From w) hm hB ⟨fun b _ => rfl, Nat.le_refl _, rfl, rfl⟩ (EWqops_sound H hW hio h hk)
      · have h' : SimB G w0 io st a { w with drawn := w.drawn + 1 } β := heap_rel h rfl rfl rfl
        have h2 := (plan_sound (Q := fun e a w => e = .normal ∧ NxE G w0 io Q .normal a w) H hW hio hs (fun a w h => ⟨rfl, h⟩) (by simp) p true ops.size _ hp h' hk).1 rfl
        refine wp_mono (wp_region_any hm (wpAny_of_K _ _ _ _ h2)) ?_
        rintro e a w ⟨rfl, h⟩
        exact h
    · rename_i hd
      have hd' : draw = false := by simpa using hd
      subst hd'
      exact wp_region_list (EWops_sound H hW hio h hk)
  | seq x y ihx ihy =>
    intro Q st a w β h hk
    refine wp_seq (wp_mono (ihx h hk) ?_)
    rintro e a w ⟨st, β, h1, h2⟩
    cases e <;> first | exact ihy h2 h1 | exact ⟨st, β, h1, h2⟩
  | cond c x y ihx ihy =>
    intro Q st a w β h hk
    simp only [EW] at hk
    split at hk
    case h_2 => exact hk.elim
    rename_i b hb
    have hc := ev_rel h c
    rw [hb] at hc
    have hc' := evr_im hc
    refine wp_cond (t := b) hc' ?_
    cases b
    · exact ihy h (hk.2 rfl)
    · exact ihx h (hk.1 rfl)
  | block id c ih =>
    intro Q st a w β h hk
    refine wp_block (wp_mono (ih h hk) ?_)
    rintro e a w ⟨st, β, h1, h2⟩
    cases e with
    | exit i =>
      simp only [Exit.inBlock]
      split
      · rename_i hi; simp only [hi, if_true] at h1; exact ⟨st, β, h1, h2⟩
      · rename_i hi; simp only [hi, if_false] at h1; exact ⟨st, β, h1, h2⟩
    | _ => exact ⟨st, β, h1, h2⟩
  | loop c ih =>
    intro Q st a w β h hk
    obtain ⟨I, N, n, ⟨st0, hle, hI⟩, hN, hr⟩ := hk
    obtain ⟨β0, h0⟩ := hle _ _ _ _ _ _ h4 h
    refine wp_loop_ghost (fun n a w => ∃ st β, I n st ∧ SimB G w0 io st a w β) n ⟨st0, β0, hI, h0⟩ ?_
    rintro n a w ⟨st, β, hI, h⟩
    refine wp_mono (ih h (hr n st hI)) ?_
    rintro e a w ⟨st, β, h1, h2⟩
    cases e with
    | normal =>
      obtain ⟨m, st0, hm, hle, hI⟩ := hN _ _ h1
      obtain ⟨β0, h0⟩ := hle _ _ _ _ _ _ h4 h2
      exact ⟨m, hm, st0, β0, hI, h0⟩
    | _ => exact ⟨st, β, h1, h2⟩
  | exit id => intro Q st a w β h hk; exact wp_exit ⟨st, β, hk, h⟩
  | ret => intro Q st a w β h hk; exact wp_ret ⟨st, β, hk, h⟩
  | label l => intro Q st a w β h hk; exact wp_label ⟨st, β, hk, h⟩
  | rangeFunc => intro Q st a w β h hk; exact hk.elim
  | scope => intro Q st a w β h hk; exact hk.elim
  | goto => intro Q st a w β h hk; exact hk.elim
  | refuse => intro Q st a w β h hk; exact hk.elim
end
end Go.RX

/- VX, part 13: every operation; operations one after the other. -/
import Derived.Test.YtpcmbchibhcdiaaDoorVx12
namespace Go.RX
open Go

variable {nt : Nat} {f : Nat → Nat} {vs : VSt} {st : St} {ven : VEn} {ren : En} {b : Nat} {o : Oper} {K : TV → Ups → Prop}

theorem list_one {α : Type} {l : List α} {a : α} (h : l = [a]) : l = [a] := h

theorem vop_sound (H : VOk ven ren) (h : Rel nt f vs st) (hb : ∀ n, b ≤ n → n < b + 8 → hget vs.h n = .free) (h4 : 4 ≤ b) (hk : vop ven b vs.h vs.t o K) : OpRes nt ven ren b vs st o K := by
  have hk0 := hk
  unfold vop at hk
  split at hk
  · rename_i ho; exact vop_move H h ho hk0
  · rename_i ho; exact vop_assign H h ho hk0
  · rename_i ho; exact vop_pick H h ho hk0
  · rename_i ho; exact vop_alloc H h hb h4 ho hk0
  · rename_i ho; exact vop_box H h hb h4 ho hk0
  · rename_i ho; exact vop_build H h ho hk0
  · rename_i ho; exact vop_buildSlice H h hb h4 ho hk0
  · rename_i ho; exact vop_load H h ho hk0
  · rename_i ho; exact vop_store H h ho hk0
  · rename_i ho; exact vop_nil h ho hk0
  · rename_i ho; exact vop_binop H h ho hk0
  · rename_i ho; exact vop_unop h ho hk0
  · rename_i ho; exact vop_convert H h ho hk0
  · rename_i ho; exact vop_make H h hb h4 ho hk0
  · rename_i ho; exact vop_slice H h ho hk0
  · rename_i ho; exact vop_fieldAddr H h ho hk0
  · rename_i ho; exact vop_field H h ho hk0
  · rename_i ho; exact vop_indexAddr H h ho hk0
  · rename_i ho; exact vop_index H h ho hk0
  · rename_i ho; exact vop_extract h ho hk0
  · rename_i g args ats ho
    unfold vbuiltin at hk
    split at hk
    · rename_i tt x h1 h2; exact vop_len H h ho h2 h1 hk0
    · rename_i tt tx s x h1 h2; exact vop_append H h hb h4 ho h2 h1 hk0
    · rename_i tt tx s x h1 h2; exact vop_copy H h ho h2 h1 hk0
    · rename_i x y h2; exact vop_max h ho h2 hk0
    · exact hk.elim
  · rename_i ho; exact vop_call H h hb h4 ho hk0
  · exact hk.elim

/-! ### states of the machine -/
structure Top (vs : VSt) : Prop where
  four : 4 ≤ vs.nx
  free : ∀ n, vs.nx ≤ n → hget vs.h n = .free

theorem Rel.any_nx (h : Rel nt f vs st) {nx : Nat} : Rel nt f ⟨vs.t, vs.h, nx⟩ st := ⟨h.t, h.nt, h.h, h.inj, h.io, h.nx⟩
theorem Rel.ap {us : Ups} (h : Rel nt f (vs.up us) st) {dst : Option Tmp} (hd : dstOk nt dst = true) {v : TV} {e : EV} (hv : relV (hup vs.h us) f v e) {nx : Nat} : Rel nt f (vs.ap nx dst v us) (st.put dst e) := by
  cases dst with
  | none => exact h.any_nx
  | some d =>
    have : d < nt := Nat.lt_of_succ_le (Nat.le_of_ble_eq_true hd)
    exact Rel.put h this hv
theorem free_up {h : VH} {b m : Nat} {us : Ups} (hu : UpsOk h b us) (hbm : b + 8 ≤ m) (hf : ∀ n, m ≤ n → hget h n = .free) : ∀ n, m ≤ n → hget (hup h us) n = .free := by
  intro n hn
  cases hg : hget (hup h us) n with
  | free => rfl
  | _ =>
    exfalso
    have hne : hget (hup h us) n ≠ .free := by rw [hg]; simp
    rcases taken_hup hne with h1 | ⟨u, hu', he⟩
    · exact h1 (hf n hn)
    · rcases hu u hu' with h1 | h1
      · rw [he] at h1; exact h1 (hf n hn)
      · omega

section
variable {G : Nat → Prop} {w0 : World} {io : List (Nat × Nat)} {a : Act} {w : World} {β : Beta}

def Nxv (nt : Nat) (G : Nat → Prop) (w0 : World) (io : List (Nat × Nat)) (K : VSt → Prop) (a : Act) (w : World) : Prop := ∃ vs f st β, K vs ∧ Rel nt f vs st ∧ Top vs ∧ SimB G w0 io st a w β

theorem op_step (HP : TIok ren.P ren.ti) (H : VOk ven ren) (hW : Ext ren.W0 w0) (hio : ∀ b ∈ ioB io, ren.W0.heap.size ≤ b) (hs : SimB G w0 io st a w β) (h : Rel nt f vs st) (ht : Top vs) {KV : VSt → Prop} {Q : Exit → Act → World → Prop}
    (hd : dstOk nt o.dst = true) (hk : vop ven vs.nx vs.h vs.t o fun v us => KV (vs.ap (vs.nx + 8) o.dst v us)) : o.wp ren.P a w (Nxv nt G w0 io KV) Q := by
  obtain ⟨v, us, hK, _, hup, hR⟩ := vop_sound H h (fun n h1 _ => ht.free n h1) ht.four hk
  have hE := hR (fun st' => ∃ f', Rel nt f' (vs.ap (vs.nx + 8) o.dst v us) st') (fun st' f' e h1 h2 => ⟨f', h1.ap hd h2⟩)
  refine Oper.wp_mono ?_ (op_sound HP hs hW hio hE)
  rintro a' w' ⟨st', β', ⟨f', h1⟩, h2⟩
  refine ⟨_, f', st', β', hK, h1, ⟨?_, ?_⟩, h2⟩
  · show 4 ≤ vs.nx + 8
    have := ht.four; omega
  · exact free_up hup (Nat.le_refl _) (fun n hn => ht.free n (Nat.le_trans (Nat.le_add_right _ _) hn))

theorem nthOper_eq : ∀ (l : List Oper) (n : Nat), nthOper l n = l[n]?
  | [], n => rfl
  | o :: l, 0 => rfl
  | o :: l, n + 1 => by simp [nthOper, nthOper_eq l n]
theorem gtmp_eq (ops : Array Oper) (j : Nat) : gtmp ops.toList j = (ops[j]?).bind (·.dst) := by
  unfold gtmp
  rw [nthOper_eq]
  simp only [Array.getElem?_toList]
  cases ops[j]? <;> rfl

/-- a temporary that is told anew -/
theorem Rel.retell (h : Rel nt f vs st) {d : Tmp} {v v' : TV} (hl : lk vs.t d = some v) (hv : ∀ e, relV vs.h f v e → relV vs.h f v' e) {nx : Nat} : Rel nt f ⟨(d, v') :: vs.t, vs.h, nx⟩ st := by
  refine ⟨fun i u hu => ?_, h.nt, h.h, h.inj, h.io, h.nx⟩
  simp only at hu
  rw [lk_cons] at hu
  split at hu
  · rename_i he
    subst he
    simp only [Option.some.injEq] at hu
    subst hu
    obtain ⟨e, he, hr⟩ := h.t _ v hl
    exact ⟨e, he, hv e hr⟩
  · exact h.t i u hu

/-- a guard: which way is gone -/
theorem vguard_cases (hs : SimB G w0 io st a w β) (h : Rel nt f vs st) (ht : Top vs) {ops : Array Oper} {j : Nat} {want : Bool} (hg : o.guard = some (j, want)) {X Y : VSt → Prop} (hk : vguard vs (gtmp ops.toList j) want X Y) :
    ∃ vs', Rel nt f vs' st ∧ Top vs' ∧ vs'.h = vs.h ∧ vs'.nx = vs.nx ∧ ((Region.wanted o (yielded ops a.tmps) = true ∧ X vs') ∨ (Region.wanted o (yielded ops a.tmps) = false ∧ Y vs')) := by
  unfold vguard at hk
  split at hk
  case h_2 => exact hk.elim
  rename_i d hd
  rw [gtmp_eq] at hd
  unfold vguardB at hk
  split at hk
  · rename_i hl
    obtain ⟨e, he, es, rfl, hes⟩ := h.t d _ hl
    obtain ⟨v, hv, hr⟩ := EVRs.get' hs.tmps he
    simp only [EVR] at hr
    obtain ⟨us, rfl, hus⟩ := hr
    have hv' : a.tmps[d]? = some (.tuple us.toArray) := by simpa using hv
    refine ⟨vs, h, ht, rfl, rfl, .inr ⟨?_, hk⟩⟩
    simp [Region.wanted, hg, yielded, hd, hv']
  · rename_i bb hl
    obtain ⟨e, he, hre⟩ := h.t d _ hl
    obtain ⟨_, rfl⟩ := hre
    obtain ⟨v, hv, hr⟩ := EVRs.get' hs.tmps he
    have : v = .bool bb := evr_im hr
    subst this
    have hv' : a.tmps[d]? = some (.bool bb) := by simpa using hv
    have hy : yielded ops a.tmps j = some bb := by simp [yielded, hd, hv']
    refine ⟨⟨(d, .a (.v .bool bb)) :: vs.t, vs.h, vs.nx⟩, h.retell hl (fun e h => h), ⟨ht.four, ht.free⟩, rfl, rfl, ?_⟩
    rw [br_iff] at hk
    cases bb
    · have hk' := hk.2 rfl
      cases want
      · exact .inl ⟨by simp [Region.wanted, hg, hy], hk'⟩
      · exact .inr ⟨by simp [Region.wanted, hg, hy], hk'⟩
    · have hk' := hk.1 rfl
      cases want
      · exact .inr ⟨by simp [Region.wanted, hg, hy], hk'⟩
      · exact .inl ⟨by simp [Region.wanted, hg, hy], hk'⟩
  · exact hk.elim

theorem skip_step (hs : SimB G w0 io st a w β) (h : Rel nt f vs st) (hd : dstOk nt o.dst = true) : Rel nt f (vs.ap vs.nx o.dst (.tup []) []) (st.put o.dst (.tup [])) ∧ SimB G w0 io (st.put o.dst (.tup [])) (a.put o.dst undef) w β :=
  ⟨Rel.ap (us := []) (v := .tup []) (e := .tup []) h hd ⟨[], rfl, trivial⟩, put_rel hs (by simp only [EVR]; exact ⟨[], rfl, trivial⟩)⟩

theorem vops_sound (HP : TIok ren.P ren.ti) (H : VOk ven ren) (hW : Ext ren.W0 w0) (hio : ∀ b ∈ ioB io, ren.W0.heap.size ≤ b) {ops : Array Oper} {KV : VSt → Prop} {Q : Exit → Act → World → Prop} (hQ : ∀ a w, Nxv nt G w0 io KV a w → Q .normal a w) :
    ∀ {os : List Oper} {f : Nat → Nat} {vs : VSt} {st : St} {a : Act} {w : World} {β : Beta}, SimB G w0 io st a w β → Rel nt f vs st → Top vs → vops ven nt ops.toList os KV vs → wpList ren.P ops Q os a w
  | [], f, vs, st, a, w, β, hs, h, ht, hk => hQ _ _ ⟨vs, f, st, β, hk, h, ht, hs⟩
  | o :: os, f, vs, st, a, w, β, hs, h, ht, hk => by
    simp only [vops] at hk
    rw [chk_iff] at hk
    obtain ⟨hd, hk⟩ := hk
    simp only [wpList]
    have step : ∀ {f vs st β}, SimB G w0 io st a w β → Rel nt f vs st → Top vs → (vop ven vs.nx vs.h vs.t o fun v us => vops ven nt ops.toList os KV (vs.ap (vs.nx + 8) o.dst v us)) → o.wp ren.P a w (wpList ren.P ops Q os) Q := by
      intro f vs st β hs h ht hk
      refine Oper.wp_mono ?_ (op_step (KV := vops ven nt ops.toList os KV) HP H hW hio hs h ht hd hk)
      rintro a' w' ⟨vs', f', st', β', h1, h2, h3, h4⟩
      exact vops_sound HP H hW hio hQ h4 h2 h3 h1
    split at hk
    · rename_i hg
      rw [if_pos (by simp [Region.wanted, hg])]
      exact .inl (step hs h ht hk)
    · rename_i j want hg
      obtain ⟨vs', h1, ht', hh, hnx, hc⟩ := vguard_cases hs h ht hg hk
      rcases hc with ⟨hw, hX⟩ | ⟨hw, hY⟩
      · rw [if_pos hw]
        exact .inl (step hs h1 ht' hX)
      · rw [if_neg (by rw [hw]; simp)]
        obtain ⟨h3, h4⟩ := skip_step (o := o) hs h1 hd
        refine vops_sound HP H hW hio hQ h4 h3 ?_ hY
        have e1 : (vs'.ap vs'.nx o.dst (.tup []) []).h = vs'.h := by simp [VSt.ap, hup]
        exact ⟨ht'.four, fun n hn => by rw [e1]; exact ht'.free n hn⟩
end
end Go.RX

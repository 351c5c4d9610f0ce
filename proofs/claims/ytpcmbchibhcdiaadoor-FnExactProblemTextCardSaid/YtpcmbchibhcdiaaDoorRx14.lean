/- RX, part 14: copy; contracts. -/
import Derived.Test.YtpcmbchibhcdiaaDoorRx13
namespace Go.RX
open Go

def pcopy (ti : TI) (t : TypeId) (st : St) (d x : EV) (K : St → EV → Prop) : Prop :=
  match srcRows st x, d with
  | some (sz, news), .own n off len =>
    match st.o n with
    | some (.arr sz' rows) => sz' = sz ∧ sz = elemSz ti t ∧ news.length = len ∧ off + len ≤ rows.length ∧
        K { st with o := upd st.o n (some (.arr sz (rows.take off ++ news ++ rows.drop (off + len)))) } (.d (.im (.int .i64 len)))
    | _ => False
  | _, _ => False

section
variable {P : Program} {ti : TI} (H : TIok P ti) {G : Nat → Prop} {w0 : World} {io : List (Nat × Nat)} {st : St} {a : Act} {w : World} {β : Beta}

theorem upd_id {o : Heap} {n : Nat} {ob : Obj} (h : o n = some ob) : upd o n (some ob) = o := by
  funext m; by_cases hm : m = n
  · subst hm; simp [upd_same, h]
  · simp [upd_ne _ _ hm]

include H in
theorem pcopy_sound (h : SimB G w0 io st a w β) {t tx ty e e' : TypeId} (ht : ti t = some (.sl e)) (htx : ti tx = some (.sl e')) {d x : EV} {vd vx : Value} {K : St → EV → Prop}
    (hp : pcopy ti t st d x K) (hd : EVR (cxOf G w β st) d vd) (hx : EVR (cxOf G w β st) x vx) :
    ∃ st' ev' v' w', K st' ev' ∧ SimB G w0 io st' a w' β ∧ EVR (cxOf G w' β st') ev' v' ∧ (Builtin.copy_ #[t, tx] ty #[vd, vx]).run P w = .ok v' w' := by
  obtain ⟨hdd, j, hj, hjs, hj1, hjb, hjb', _, z, hz, hzs⟩ := desc_sl H ht
  obtain ⟨hdx, _⟩ := desc_sl H htx
  have hes : elemSz ti t = szT ti e := by simp [elemSz, ht]
  unfold pcopy at hp
  split at hp
  case h_2 => exact hp.elim
  rename_i sz news n off len hsrc
  split at hp
  case h_2 => exact hp.elim
  rename_i sz' rows hob
  obtain ⟨rfl, hsz, hnl, hle, hk⟩ := hp
  have hszj : j.size = sz' := by rw [hjs, ← hes, hsz]
  obtain ⟨vals, hfl, hzn, hS⟩ := src_of h hx hsrc hdx
  obtain ⟨ovals, hfo, hlo, hzo, hcase⟩ := own_cells h hob hd
  have hval : ∀ w', EVR (cxOf G w' β { st with o := upd st.o n (some (.arr sz' (rows.take off ++ news ++ rows.drop (off + len)))) }) (.d (.im (.int .i64 len))) (.int .i64 len) := fun w' => evr_mk rfl
  rcases hcase with ⟨b, base, cs, T, cap, hβ, hh, rfl, hc, hkc, hcells⟩ | ⟨ad, rfl, h0⟩
  · obtain ⟨hz', hm⟩ := h.objs n _ hob
    have hm' : match β n with | none => rows = [] | some (b, base) => ∃ cs T, w.heap[b]? = some (.cells cs T (0, 0)) ∧ base + rows.length * sz' ≤ cs.size ∧
          ∀ (i j : Nat) r x, rows[i]? = some r → r[j]? = some x → ∃ v, cs[base + i * sz' + j]? = some v ∧ Rd w (SafeOf G w β st.o) v x := hm
    rw [hβ] at hm'
    obtain ⟨cs1, T1, hh1, hle1, hcell1⟩ := hm'
    rw [hh] at hh1
    simp only [Option.some.injEq, Obj.cells.injEq] at hh1
    obtain ⟨rfl, rfl, _⟩ := hh1
    have hmulc : (off + cap) * sz' = off * sz' + cap * sz' := Nat.add_mul _ _ _
    have hmul2 : len * sz' ≤ cap * sz' := Nat.mul_le_mul_right _ hc
    have hvl : vals.length = len * sz' := by rw [hfl.len, hnl]
    have hst := run_storeCells_at (P := P) b (base + off * sz') T vals 0 cs w hh (by omega) hfl.one
    simp only [Nat.add_zero] at hst
    have hcsz : (cs.toList.take (base + off * sz') ++ vals ++ cs.toList.drop (base + off * sz' + vals.length)).toArray.size = cs.size := by simp; omega
    have hnewlen : (rows.take off ++ news ++ rows.drop (off + len)).length = rows.length := by simp; omega
    have hw := write_rel (ob' := .arr sz' (rows.take off ++ news ++ rows.drop (off + len))) h hob hβ hh hcsz rfl
      (by rintro s2 r2 he; simp only [Obj.arr.injEq] at he; obtain ⟨rfl, rfl⟩ := he; exact ⟨_, rfl, by rw [hnewlen]; exact Nat.le_refl _⟩) (by
        refine ⟨?_, by rw [hcsz, hnewlen]; exact hle1, ?_⟩
        · intro r hr
          rcases List.mem_append.mp hr with hr | hr
          · rcases List.mem_append.mp hr with hr | hr
            · exact hz' r (List.mem_of_mem_take hr)
            · exact hzn r hr
          · exact hz' r (List.mem_of_mem_drop hr)
        · intro i k r x hr hx
          rw [← hnl, splice_get (by omega)] at hr
          simp only [List.getElem?_toArray]
          rw [splice_get (by simp; omega)]
          by_cases c1 : i < off
          · rw [if_pos c1] at hr
            have hkl : k < sz' := by rw [← hz' r (List.mem_of_getElem? hr)]; exact (List.getElem?_eq_some_iff.mp hx).1
            have : i * sz' + sz' ≤ off * sz' := by rw [← Nat.succ_mul]; exact Nat.mul_le_mul_right _ c1
            rw [if_pos (by omega)]
            obtain ⟨v, h1, h2⟩ := hcell1 i k r x hr hx
            exact ⟨v, by simpa using h1, h2⟩
          · rw [if_neg c1] at hr
            by_cases c2 : i < off + news.length
            · rw [if_pos c2] at hr
              obtain ⟨u, hu, hrd⟩ := hfl.rd _ k r x hr hx
              have hub := (List.getElem?_eq_some_iff.mp hu).1
              have e1 : i * sz' = off * sz' + (i - off) * sz' := by rw [← Nat.add_mul]; congr 1; omega
              refine ⟨u, ?_, hrd⟩
              rw [if_neg (by omega), if_pos (by omega), show base + i * sz' + k - (base + off * sz') = (i - off) * sz' + k by omega]
              exact hu
            · rw [if_neg c2] at hr
              have : (off + len) * sz' ≤ i * sz' := Nat.mul_le_mul_right _ (by omega)
              rw [Nat.add_mul] at this
              rw [if_neg (by omega), if_neg (by omega)]
              obtain ⟨v, h1, h2⟩ := hcell1 i k r x hr hx
              exact ⟨v, by simpa using h1, h2⟩)
    refine ⟨_, _, _, _, hk, hw.1, hval _, ?_⟩
    have hsc := hS.cells
    rw [hnl] at hsc
    rcases hS.kind with ⟨e'', hk''⟩ | hk'' <;> simp [Builtin.copy_, run_underlying hdd, sizeOf, typeInfo, hj, hS.len, hszj, hnl, hsc, goInt, hst]
  · subst h0
    have hnews : news = [] := List.eq_nil_of_length_eq_zero hnl
    subst hnews
    have hvals : vals = [] := by apply List.eq_nil_of_length_eq_zero; rw [hfl.len]; simp
    subst hvals
    have est : ({ st with o := upd st.o n (some (.arr sz' (rows.take off ++ [] ++ rows.drop (off + 0)))) } : St) = st := by
      simp only [List.append_nil, Nat.add_zero, List.take_append_drop]
      rw [upd_id hob]
    rw [est] at hk
    refine ⟨_, _, .int .i64 0, w, hk, h, evr_mk rfl, ?_⟩
    have hsc := hS.cells
    have hl0 := hS.len w
    simp only [List.length_nil] at hl0 hsc
    have hmin : Nat.min 0 0 = 0 := rfl
    cases ad <;> simp [Builtin.copy_, run_underlying hdd, sizeOf, typeInfo, hj, hl0, hszj, hsc, goInt, storeCells, hmin]
end

/-! ### contracts -/
inductive AV where
  | d (x : D)
  | agg (cells : List D)
  | io (cells : List D)
inductive RV where
  | d (x : D)
  | agg (cells : List D)
  | own (sz : Nat) (rows : List (List D))
  | bx (cells : List D)

def Ext (W0 w : World) : Prop := W0.heap.size ≤ w.heap.size ∧ ∀ b, b < W0.heap.size → w.heap[b]? = W0.heap[b]?

def ArgR (w : World) (S : Nat → Prop) : AV → Value → List Nat → Prop
  | .d x, v, bs => Rd w S v x ∧ bs = []
  | .agg cells, v, bs => (∃ vs : List Value, v = .agg vs.toArray ∧ RdL w S cells vs) ∧ bs = []
  | .io cells, v, bs => ∃ b T, ∃ vs : List Value, v = .pointer (some ⟨b, 0, none⟩) ∧ bs = [b] ∧ w.heap[b]? = some (.cells vs.toArray T (0, 0)) ∧ RdL w S cells vs
def ArgsR (w : World) (S : Nat → Prop) : List AV → List Value → List Nat → Prop
  | [], [], bs => bs = []
  | a :: as, v :: vs, bs => ∃ b1 b2, bs = b1 ++ b2 ∧ ArgR w S a v b1 ∧ ArgsR w S as vs b2
  | _, _, _ => False

def IosR (w : World) (S : Nat → Prop) : List (List D) → List Nat → Prop
  | [], [] => True
  | cs :: css, b :: bs => (∃ T, ∃ vs : List Value, w.heap[b]? = some (.cells vs.toArray T (0, 0)) ∧ RdL w S cs vs) ∧ IosR w S css bs
  | _, _ => False

def ResR (w : World) (S : Nat → Prop) : RV → Value → List Nat → Prop
  | .d x, v, bs => Rd w S v x ∧ bs = []
  | .agg cells, v, bs => (∃ vs : List Value, v = .agg vs.toArray ∧ RdL w S cells vs) ∧ bs = []
  | .own sz rows, v, bs => (∀ r ∈ rows, r.length = sz) ∧
      ((rows = [] ∧ (∃ ad, v = .slice ad 0 0) ∧ bs = []) ∨
        ∃ b base cap cs T, v = .slice (some ⟨b, base, none⟩) rows.length cap ∧ rows.length ≤ cap ∧ bs = [b] ∧ w.heap[b]? = some (.cells cs T (0, 0)) ∧ base + cap * sz ≤ cs.size ∧
          ∀ (i j : Nat) r x, rows[i]? = some r → r[j]? = some x → ∃ v, cs[base + i * sz + j]? = some v ∧ Rd w S v x)
  | .bx cells, v, bs => ∃ b T, ∃ vs : List Value, v = .pointer (some ⟨b, 0, none⟩) ∧ bs = [b] ∧ w.heap[b]? = some (.cells vs.toArray T (0, 0)) ∧ RdL w S cells vs
def RessR (w : World) (S : Nat → Prop) : List RV → List Value → List Nat → Prop
  | [], [], bs => bs = []
  | a :: as, v :: vs, bs => ∃ b1 b2, bs = b1 ++ b2 ∧ ResR w S a v b1 ∧ RessR w S as vs b2
  | _, _, _ => False

def packV : List Value → Value
  | [v] => v
  | vs => .tuple vs.toArray

abbrev Post := List RV → List (List D) → Prop

/-- where results may reach: new blocks (none of an owned result's), and, unless the contract says 'fresh', what the arguments reach -/
def After (w w' : World) (S : Nat → Prop) (fresh : Bool) (obs : List Nat) (b : Nat) : Prop := b < w'.heap.size ∧ b ∉ obs ∧ (w.heap.size ≤ b ∨ (fresh = false ∧ S b))

def Callable (P : Program) (f : FuncId) : Prop := ∃ fn, P.funcs[f]? = some fn ∧ fn.body.isSome = true ∧ (fn.name == "runtime.NumGoroutine") = false

def Con (P : Program) (W0 : World) (f : FuncId) (fresh : Bool) (args : List AV) (post : Post) : Prop :=
  Callable P f ∧ ∀ (w : World) (S : Nat → Prop) (vals : List Value) (io : List Nat), Ext W0 w → io.Nodup → (∀ b ∈ io, W0.heap.size ≤ b ∧ b < w.heap.size ∧ ¬ S b) → (∀ b, S b → b < w.heap.size) → ArgsR w S args vals io →
    Calls P f vals.toArray w fun e w' => ∃ rs ios, ∃ vs : List Value, ∃ obs, post rs ios ∧ e = .returned (packV vs) ∧ WLe w w' ∧ (∀ b, b < w.heap.size → b ∉ io → w'.heap[b]? = w.heap[b]?) ∧
      (∀ b ∈ io, ∀ k, Blk w b k → Blk w' b k) ∧ obs.Nodup ∧ (∀ b ∈ obs, w.heap.size ≤ b ∧ b < w'.heap.size) ∧
      IosR w' (After w w' S fresh obs) ios io ∧ RessR w' (After w w' S fresh obs) rs vs obs
end Go.RX

/- RX, part 14a: structs and bools compared. -/
import Derived.Test.YtpcmbchibhcdiaaDoorRx14
import Derived.Laws.StructEq
namespace Go.RX
open Go
def eqD : D → D → Bool
  | .im (.int _ a), .im (.int _ b) => a == b
  | .im (.bool a), .im (.bool b) => a == b
  | .im (.string a), .im (.string b) => a.toList == b.toList
  | _, _ => false
def all2B {α β : Type} (f : α → β → Bool) : List α → List β → Bool
  | [], [] => true
  | a :: as, b :: bs => f a b && all2B f as bs
  | _, _ => false
def kindTK : Option TK → D → Bool
  | some (.int k), .im (.int k' _) => decide (k = k')
  | some .bool, .im (.bool _) => true
  | some .str, .im (.string _) => true
  | _, _ => false
theorem kindTK_int {k : IntKind} {d : D} (h : kindTK (some (.int k)) d = true) : ∃ n, d = .im (.int k n) := by
  cases d with
  | sl _ _ => simp [kindTK] at h
  | im v => cases v <;> simp [kindTK] at h; subst h; exact ⟨_, rfl⟩
theorem kindTK_bool {d : D} (h : kindTK (some .bool) d = true) : ∃ n, d = .im (.bool n) := by
  cases d with
  | sl _ _ => simp [kindTK] at h
  | im v => cases v <;> simp [kindTK] at h; exact ⟨_, rfl⟩
theorem kindTK_str {d : D} (h : kindTK (some .str) d = true) : ∃ n, d = .im (.string n) := by
  cases d with
  | sl _ _ => simp [kindTK] at h
  | im v => cases v <;> simp [kindTK] at h; exact ⟨_, rfl⟩
/-- a struct of scalars, compared cell by cell -/
def eqOkB (P : Program) (ti : TI) (t : TypeId) : Bool :=
  match P.underlying t with
  | some (.struct fields) => fields.toList.all (fun f => f.name != "_") && !P.stoodInHeld t && !P.eqGuardType P.depth t
  | _ => false
def pbinA (P : Program) (ti : TI) (op : BinOp) (t : TypeId) (a b : EV) (K : EV → Prop) : Prop :=
  match a, b with
  | .agg xs, .agg ys => eqOkB P ti t = true ∧ (∃ fts, ti t = some (.st fts) ∧ all2B (fun f x => kindTK (ti f) x) fts xs = true ∧ all2B (fun f x => kindTK (ti f) x) fts ys = true) ∧
      match op with
      | .eql => K (.d (.im (.bool (all2B eqD xs ys))))
      | .neq => K (.d (.im (.bool (!all2B eqD xs ys))))
      | _ => False
  | .d (.im (.bool x)), .d (.im (.bool y)) => ti t = some .bool ∧
      match op with
      | .eql => K (.d (.im (.bool (x == y))))
      | .neq => K (.d (.im (.bool (!(x == y)))))
      | _ => False
  | a, b => pbin op a b K

section
variable {P : Program} {ti : TI} (H : TIok P ti) {c : Cx}
include H
theorem desc_bool {t : TypeId} (h : ti t = some .bool) : P.underlying t = some .bool := by
  have h0 := H.ok t _ h
  unfold tkOk at h0
  split at h0
  · rename_i u i hu hi
    simp only [Bool.and_eq_true] at h0
    rw [hu]; cases u <;> simp_all
  · simp at h0

theorem eqFields_run {w : World} {S : Nat → Prop} {xs ys : List Value} : ∀ {fts : List TypeId} {fs : List Field} {i : Nat} {ds es : List D}, fieldsAre ti i fts fs = true → fs.all (fun f => f.name != "_") = true →
    all2B (fun f x => kindTK (ti f) x) fts ds = true → all2B (fun f x => kindTK (ti f) x) fts es = true →
    (∀ (j : Nat) x, ds[j]? = some x → ∃ v, xs[i + j]? = some v ∧ Rd w S v x) → (∀ (j : Nat) x, es[j]? = some x → ∃ v, ys[i + j]? = some v ∧ Rd w S v x) →
    ∀ w', (Op.eqFields 9999 xs.toArray ys.toArray fs).run P w' = .ok (all2B eqD ds es) w'
  | [], [], i, [], [], _, _, _, _, _, _, w' => by simp [Op.eqFields, all2B]
  | ft :: fts, f :: fs, i, d :: ds, e :: es, hf, hn, hd, he, hx, hy, w' => by
    simp only [fieldsAre, Bool.and_eq_true, beq_iff_eq] at hf
    obtain ⟨⟨⟨hft, hfo⟩, hns⟩, hf⟩ := hf
    simp only [List.all_cons, Bool.and_eq_true] at hn
    obtain ⟨hn1, hn⟩ := hn
    simp only [all2B, Bool.and_eq_true] at hd he
    obtain ⟨hd1, hd⟩ := hd
    obtain ⟨he1, he⟩ := he
    obtain ⟨v, hv, hrv⟩ := hx 0 d (by simp)
    obtain ⟨u, hu, hru⟩ := hy 0 e (by simp)
    have ih := eqFields_run (xs := xs) (ys := ys) (w := w) (S := S) hf hn hd he (fun j x h => by
      obtain ⟨v, h1, h2⟩ := hx (j + 1) x (by simpa using h)
      exact ⟨v, by rw [← h1]; congr 1; omega, h2⟩) (fun j x h => by
      obtain ⟨v, h1, h2⟩ := hy (j + 1) x (by simpa using h)
      exact ⟨v, by rw [← h1]; congr 1; omega, h2⟩) w'
    have hnn : f.name ≠ "_" := by simpa using hn1
    have hv' : xs.toArray[f.offset]? = some v := by rw [hfo]; simpa using hv
    have hu' : ys.toArray[f.offset]? = some u := by rw [hfo]; simpa using hu
    have key : ∀ tk, ti ft = some tk → (match tk with | .st _ => False | _ => True) → (isAgg f.type).run P w' = .ok false w' := by
      intro tk htk hk
      rw [hft]
      refine (isSt_some H (t := ft) (b := false) ?_).1 w'
      unfold isSt; rw [htk]; cases tk <;> first | rfl | exact hk.elim
    simp only [Op.eqFields, hnn, ne_eq, not_false_eq_true, if_true]
    cases htk : ti ft with
    | none => rw [htk] at hd1; simp [kindTK] at hd1
    | some tk =>
      rw [htk] at hd1 he1
      have hag : (isAgg f.type).run P w' = .ok false w' := key tk htk (by cases tk <;> first | trivial | (simp [kindTK] at hd1))
      have hpx : (part f.type xs.toArray f.offset).run P w' = .ok v w' := by simp [part, hag, hv']
      have hpy : (part f.type ys.toArray f.offset).run P w' = .ok u w' := by simp [part, hag, hu']
      have hr : (Op.equalIn 9999 f.type v u).run P w' = .ok (eqD d e) w' := by
        rw [hft]
        cases tk with
        | int k =>
          obtain ⟨m, rfl⟩ := kindTK_int hd1
          obtain ⟨n, rfl⟩ := kindTK_int he1
          cases hrv; cases hru
          exact run_equalIn_int w' 9998 ft _ k m n (desc_int H htk)
        | bool =>
          obtain ⟨m, rfl⟩ := kindTK_bool hd1
          obtain ⟨n, rfl⟩ := kindTK_bool he1
          cases hrv; cases hru
          exact run_equalIn_bool' w' 9998 ft _ _ (desc_bool H htk)
        | str =>
          obtain ⟨m, rfl⟩ := kindTK_str hd1
          obtain ⟨n, rfl⟩ := kindTK_str he1
          cases hrv; cases hru
          exact run_equalIn_string w' 9998 ft _ _ (desc_str H htk)
        | sl _ => simp [kindTK] at hd1
        | st _ => simp [kindTK] at hd1
        | oth => simp [kindTK] at hd1
      simp only [Sem.run_bind, hpx, hpy, hr, Result.andThen_ok]
      cases hde : eqD d e
      · simp [all2B, hde]
      · simp [all2B, hde, ih]
  | [], _ :: _, _, _, _, h, _, _, _, _, _, _ => by simp [fieldsAre] at h
  | _ :: _, [], _, _, _, h, _, _, _, _, _, _ => by simp [fieldsAre] at h
  | [], [], _, _ :: _, _, _, _, h, _, _, _, _ => by simp [all2B] at h
  | [], [], _, [], _ :: _, _, _, _, h, _, _, _ => by simp [all2B] at h
  | _ :: _, _ :: _, _, [], _, _, _, h, _, _, _, _ => by simp [all2B] at h
  | _ :: _, _ :: _, _, _ :: _, [], _, _, _, h, _, _, _ => by simp [all2B] at h

theorem pbinA_sound {op : BinOp} {a b : EV} {va vb : Value} {K : EV → Prop} {t : TypeId} (h : pbinA P ti op t a b K) (ha : EVR c a va) (hb : EVR c b vb) (p q : Operand) :
    Reads P c (do eqGuard op t p q va vb; binOp op t va vb) K := by
  unfold pbinA at h
  split at h
  · rename_i xs ys
    obtain ⟨hok, ⟨fts, hti, hkx, hky⟩, h⟩ := h
    simp only [EVR] at ha hb
    obtain ⟨vs, rfl, hvs⟩ := ha
    obtain ⟨us, rfl, hus⟩ := hb
    obtain ⟨fields, i, hdesc, hfa, _⟩ := desc_st H hti
    unfold eqOkB at hok
    rw [hdesc] at hok
    simp only [Bool.and_eq_true, Bool.not_eq_true'] at hok
    obtain ⟨⟨hnm, hst⟩, hgt⟩ := hok
    have hfo : P.fieldsOf t = fields := by simp [Program.fieldsOf, hdesc]
    have hrun : ∀ w', (Op.equalIn 10000 t (.agg vs.toArray) (.agg us.toArray)).run P w' = .ok (all2B eqD xs ys) w' := by
      intro w'
      rw [run_equalIn_agg w' 9999 t _ _ (by rw [hfo]; exact hdesc) hst, hfo]
      exact eqFields_run H (w := c.w) (S := c.S) hfa hnm hkx hky (fun j x hj => by rw [Nat.zero_add]; exact hvs.get hj) (fun j x hj => by rw [Nat.zero_add]; exact hus.get hj) w'
    have hg : ∀ w', (eqGuard op t p q (.agg vs.toArray) (.agg us.toArray)).run P w' = .ok () w' := fun w' => run_eqGuard_agg w' op t p q _ _ hgt
    split at h
    · exact reads_im h rfl (fun w' => by simp [hg, run_eql_struct, hrun])
    · exact reads_im h rfl (fun w' => by simp [hg, run_neq_struct, hrun])
    · exact h.elim
  · rename_i x y
    obtain ⟨hti, h⟩ := h
    rw [evr_im ha, evr_im hb]
    have hd := desc_bool H hti
    have hg : ∀ w', (eqGuard op t p q (.bool x) (.bool y)).run P w' = .ok () w' := by
      intro w'; unfold eqGuard; split <;> simp
    have he : ∀ w', (Op.equalIn 10000 t (.bool x) (.bool y)).run P w' = .ok (x == y) w' := fun w' => run_equalIn_bool' w' 9999 t x y hd
    split at h
    · exact reads_im h rfl (fun w' => by simp [hg, binOp, Op.equal, Op.maxDepth, he])
    · exact reads_im h rfl (fun w' => by simp [hg, binOp, Op.equal, Op.maxDepth, he])
    · exact h.elim
  · exact pbin_sound h ha hb t p q
end
end Go.RX

/- RX, part 3: the operations that change nothing in memory. -/
import Derived.Test.YtpcmbchibhcdiaaDoorRx2
namespace Go.RX
open Go

def cellD : EV → Option D
  | .d x => some x
  | .nil sz => some (.sl sz [])
  | _ => none
def cellsD : List EV → Option (List D)
  | [] => some []
  | e :: es => match cellD e, cellsD es with | some x, some xs => some (x :: xs) | _, _ => none

def isSt (ti : TI) (t : TypeId) : Option Bool := match ti t with | some (.st _) => some true | some _ => some false | none => none

def ibin (op : BinOp) (k : IntKind) (x y : Int) (K : EV → Prop) : Prop :=
  match op with
  | .add => K (.d (.im (.int k (k.wrap (x + y)))))
  | .sub => K (.d (.im (.int k (k.wrap (x - y)))))
  | .mul => K (.d (.im (.int k (k.wrap (x * y)))))
  | .quo => y ≠ 0 ∧ K (.d (.im (.int k (k.wrap (x.tdiv y)))))
  | .rem => y ≠ 0 ∧ K (.d (.im (.int k (x.tmod y))))
  | .xor => K (.d (.im (.int k (k.wrap ((x % (2 ^ k.bits : Int)).toNat ^^^ (y % (2 ^ k.bits : Int)).toNat : Nat)))))
  | .eql => K (.d (.im (.bool (decide (x = y)))))
  | .neq => K (.d (.im (.bool (!decide (x = y)))))
  | .lss => K (.d (.im (.bool (decide (x < y)))))
  | .leq => K (.d (.im (.bool (decide (x ≤ y)))))
  | .gtr => K (.d (.im (.bool (decide (y < x)))))
  | .geq => K (.d (.im (.bool (decide (y ≤ x)))))
  | _ => False

def sbin (op : BinOp) (x y : ByteArray) (K : EV → Prop) : Prop :=
  match op with
  | .add => x.size + y.size ≤ 9223372036854775807 ∧ K (.d (.im (.string (x ++ y))))
  | .eql => K (.d (.im (.bool (x.toList == y.toList))))
  | .neq => K (.d (.im (.bool (!(x.toList == y.toList)))))
  | .lss => K (.d (.im (.bool (Op.bytesLess x.toList y.toList))))
  | _ => False

def pbin (op : BinOp) (a b : EV) (K : EV → Prop) : Prop :=
  match a, b with
  | .d (.im (.int k x)), .d (.im (.int k' y)) => k = k' ∧ op ≠ .shl ∧ op ≠ .shr ∧ ibin op k x y K
  | .d (.im (.string x)), .d (.im (.string y)) => sbin op x y K
  | _, _ => False

def pload (ti : TI) (st : St) (t : TypeId) (a : EV) (K : EV → Prop) : Prop :=
  match a with
  | .ptr n row fld =>
    match st.o n, isSt ti t with
    | some (.box cells), some false => row = 0 ∧ ∃ e, cells[fld]? = some e ∧ K e
    | some (.box cells), some true => row = 0 ∧ fld + szT ti t ≤ cells.length ∧ ∃ ds, cellsD ((cells.drop fld).take (szT ti t)) = some ds ∧ K (.agg ds)
    | some (.arr _ rows), some false => ∃ r, rows[row]? = some r ∧ ∃ x, r[fld]? = some x ∧ K (.d x)
    | some (.arr _ rows), some true => ∃ r, rows[row]? = some r ∧ fld + szT ti t ≤ r.length ∧ K (.agg ((r.drop fld).take (szT ti t)))
    | _, _ => False
  | .rptr cells =>
    match isSt ti t with
    | some false => ∃ x, cells[0]? = some x ∧ K (.d x)
    | some true => szT ti t ≤ cells.length ∧ K (.agg (cells.take (szT ti t)))
    | none => False
  | _ => False

def pindexAddr (st : St) (a i : EV) (ti : TI) (t : TypeId) (K : EV → Prop) : Prop :=
  match i with
  | .d (.im (.int _ i)) =>
    match a with
    | .own n off len =>
      match st.o n with
      | some (.arr sz _) => sz = elemSz ti t ∧ 0 ≤ i ∧ i < len ∧ K (.ptr n (off + i.toNat) 0)
      | _ => False
    | .d (.sl sz rows) => sz = elemSz ti t ∧ 0 ≤ i ∧ ∃ r, rows[i.toNat]? = some r ∧ K (.rptr r)
    | _ => False
  | _ => False

def pindex (a i : EV) (K : EV → Prop) : Prop :=
  match a, i with
  | .d (.im (.string s)), .d (.im (.int _ i)) => 0 ≤ i ∧ ∃ b, s[i.toNat]? = some b ∧ K (.d (.im (.int .u8 b.toNat)))
  | _, _ => False

/-- a bound of a slice expression, or what stands in its place -/
def pbound (st : St) (x : Option Operand) (dflt : Int) (K : Int → Prop) : Prop :=
  match x with
  | none => K dflt
  | some x => match ev st x with | .d (.im (.int _ i)) => K i | _ => False

def pslice (ti : TI) (t : TypeId) (st : St) (x : EV) (lo hi : Option Operand) (K : EV → Prop) : Prop :=
  match x with
  | .d (.im (.string s)) => pbound st hi s.size fun h => pbound st lo 0 fun l => 0 ≤ l ∧ l ≤ h ∧ h ≤ s.size ∧ K (.d (.im (.string (s.extract l.toNat h.toNat))))
  | .d (.sl sz rows) => pbound st hi rows.length fun h => pbound st lo 0 fun l => sz = elemSz ti t ∧ 0 ≤ l ∧ l ≤ h ∧ h ≤ rows.length ∧ K (.d (.sl sz ((rows.take h.toNat).drop l.toNat)))
  | .own n off len =>
    match st.o n with
    | some (.arr sz _) => pbound st hi len fun h => pbound st lo 0 fun l => sz = elemSz ti t ∧ 0 ≤ l ∧ l ≤ h ∧ h ≤ len ∧ K (.own n (off + l.toNat) (h.toNat - l.toNat))
    | _ => False
  | _ => False

def plen (o : Heap) (ti : TI) (t : TypeId) (a : EV) (K : EV → Prop) : Prop :=
  match a, ti t with
  | .d (.im (.string s)), some .str => K (.d (.im (.int .i64 s.size)))
  | .d (.sl _ rows), some (.sl _) => K (.d (.im (.int .i64 rows.length)))
  | .nil _, some (.sl _) => K (.d (.im (.int .i64 0)))
  | .own n _ len, some (.sl _) => o n ≠ none ∧ K (.d (.im (.int .i64 len)))
  | _, _ => False

/-- all the blocks of a world stand in another -/
def Keeps (w w' : World) : Prop := ∀ b, b < w.heap.size → w'.heap[b]? = w.heap[b]?
theorem Keeps.refl (w : World) : Keeps w w := fun _ _ => rfl
theorem Keeps.block {w w' : World} (h : Keeps w w') {b : Nat} {x : Go.Obj} (hb : w.heap[b]? = some x) : w'.heap[b]? = some x := by
  rw [h b (Array.getElem?_eq_some_iff.1 hb).1]; exact hb
theorem Keeps.cell {w w' : World} (h : Keeps w w') {a : Addr} {v : Value} (hc : w.cell? a = some v) : w'.cell? a = some v := by
  unfold World.cell? at *
  cases hb : w.heap[a.block]? with
  | none => rw [hb] at hc; simp at hc
  | some x => rw [h.block hb]; rw [hb] at hc; exact hc
theorem keeps_push {w w' : World} {x : Go.Obj} (h : w'.heap = w.heap.push x) : Keeps w w' := by
  intro b hb
  rw [h, Array.getElem?_push]
  simp [Nat.ne_of_lt hb]
theorem Keeps.trans {a b c : World} (h1 : Keeps a b) (h2 : Keeps b c) : Keeps a c := by
  intro k hk
  have h3 : ∃ x, a.heap[k]? = some x := ⟨_, Array.getElem?_eq_getElem hk⟩
  obtain ⟨x, hx⟩ := h3
  rw [h2.block (h1.block hx), hx]
/-- what a step that only reads leaves -/
def Reads (P : Program) (c : Cx) (s : Sem Value) (K : EV → Prop) : Prop := ∃ e v, K e ∧ EVR c e v ∧ ∀ w', Keeps c.w w' → s.run P w' = .ok v w'

section
variable {P : Program} {ti : TI} (H : TIok P ti) {c : Cx}

theorem evr_im {v u : Value} (h : EVR c (.d (.im v)) u) : u = v := by
  simp only [EVR] at h; cases h; rfl
theorem evr_mk {v : Value} (h : v.oneCell' = true) : EVR c (.d (.im v)) v := by simp only [EVR]; exact .im v h
theorem reads_im {s : Sem Value} {K : EV → Prop} {v : Value} (hk : K (.d (.im v))) (h1 : v.oneCell' = true) (hr : ∀ w', s.run P w' = .ok v w') : Reads P c s K :=
  ⟨_, v, hk, evr_mk h1, fun w' _ => hr w'⟩

theorem ibin_sound {op : BinOp} {k : IntKind} {x y : Int} {K : EV → Prop} (h : ibin op k x y K) (h1 : op ≠ .shl) (h2 : op ≠ .shr) (t : TypeId) (p q : Operand) :
    Reads P c (do eqGuard op t p q (.int k x) (.int k y); binOp op t (.int k x) (.int k y)) K := by
  have he : ∀ w, (eqGuard op t p q (.int k x) (.int k y)).run P w = .ok () w := by
    intro w; unfold eqGuard; split <;> simp
  have e1 : (x == y) = decide (x = y) := by rw [Bool.eq_iff_iff]; simp
  have e2 : (x != y) = !decide (x = y) := by simp [bne, e1]
  cases op <;> simp only [ibin] at h <;> first
    | exact h.elim
    | (exact absurd rfl h1)
    | (exact absurd rfl h2)
    | (obtain ⟨hy, hk⟩ := h; exact reads_im hk rfl (by simp [he, binOp, Op.intDiv, hy]))
    | (exact reads_im h rfl (by simp [he, binOp, Op.intArith, Op.intCmp, Op.intBits, e1, e2]))

theorem sbin_sound {op : BinOp} {x y : ByteArray} {K : EV → Prop} (h : sbin op x y K) (t : TypeId) (p q : Operand) :
    Reads P c (do eqGuard op t p q (.string x) (.string y); binOp op t (.string x) (.string y)) K := by
  have he : ∀ w, (eqGuard op t p q (.string x) (.string y)).run P w = .ok () w := by
    intro w; unfold eqGuard; split <;> simp
  cases op <;> simp only [sbin] at h <;> first
    | exact h.elim
    | (obtain ⟨hs, hk⟩ := h
       refine reads_im hk rfl ?_
       simp [he, binOp, Op.stringOp, IntKind.max, IntKind.signed, IntKind.bits]; omega)
    | (exact reads_im h rfl (by simp [he, binOp, Op.stringOp]))

theorem pbin_sound {op : BinOp} {a b : EV} {va vb : Value} {K : EV → Prop} (h : pbin op a b K) (ha : EVR c a va) (hb : EVR c b vb) (t : TypeId) (p q : Operand) :
    Reads P c (do eqGuard op t p q va vb; binOp op t va vb) K := by
  unfold pbin at h
  split at h
  · obtain ⟨hk, h1, h2, h⟩ := h
    subst hk
    rw [evr_im ha, evr_im hb]
    exact ibin_sound h h1 h2 t p q
  · rw [evr_im ha, evr_im hb]
    exact sbin_sound h t p q
  · exact h.elim


include H
theorem desc_str {t : TypeId} (h : ti t = some .str) : P.underlying t = some .string := by
  have h0 := H.ok t _ h
  unfold tkOk at h0
  split at h0
  · rename_i u i hu hi
    simp only [Bool.and_eq_true] at h0
    rw [hu]; cases u <;> simp_all
  · simp at h0

theorem desc_sl {t e : TypeId} (h : ti t = some (.sl e)) : P.underlying t = some (.slice e) ∧ ∃ j, P.info? e = some j ∧ j.size = szT ti e ∧ 1 ≤ j.size ∧ 1 ≤ j.bytes ∧ j.bytes ≤ 1024 ∧ (ti e).isSome ∧ ∃ z, j.zero = some z ∧ z.cells.size = j.size := by
  have h0 := H.ok t _ h
  unfold tkOk at h0
  split at h0
  · rename_i u i hu hi
    simp only [Bool.and_eq_true] at h0
    obtain ⟨⟨⟨⟨h1, h2⟩, h3⟩, h4⟩, h5⟩ := h0
    constructor
    · rw [hu]; cases u <;> simp_all
    · cases hj : P.info? e with
      | none => rw [hj] at h4; simp at h4
      | some j =>
        rw [hj] at h4; simp at h4
        cases hz : j.zero with
        | none => rw [hz] at h4; simp at h4
        | some z => rw [hz] at h4; simp at h4; exact ⟨j, rfl, h4.1.1.1.1, h4.1.1.1.2, h4.1.1.2, h4.1.2, h5, z, hz, h4.2⟩
  · simp at h0

theorem desc_int {t : TypeId} {k : IntKind} (h : ti t = some (.int k)) : P.underlying t = some (.int k) := by
  have h0 := H.ok t _ h
  unfold tkOk at h0
  split at h0
  · rename_i u i hu hi
    simp only [Bool.and_eq_true] at h0
    rw [hu]; cases u <;> simp_all
  · simp at h0

theorem desc_st {t : TypeId} {fs : List TypeId} (h : ti t = some (.st fs)) : ∃ fields i, P.underlying t = some (.struct fields) ∧ fieldsAre ti 0 fs fields.toList = true ∧
    P.info? t = some i ∧ i.size = fs.length ∧ ∃ zs, i.zero = some (.agg zs) ∧ zerosAre ti fs zs.toList = true := by
  have h0 := H.ok t _ h
  unfold tkOk at h0
  split at h0
  · rename_i u i hu hi
    simp only [Bool.and_eq_true] at h0
    obtain ⟨⟨h1, h2⟩, h3⟩ := h0
    cases u <;> simp at h1
    rename_i fields
    refine ⟨fields, i, hu, h1, hi, by simpa using h2, ?_⟩
    split at h3
    · exact ⟨_, ‹_›, h3⟩
    · simp at h3
  · simp at h0

omit H in
theorem fieldsAre_get : ∀ {fs : List TypeId} {gs : List Field} {i j : Nat} {f : TypeId}, fieldsAre ti i fs gs = true → fs[j]? = some f →
    ∃ g, gs[j]? = some g ∧ g.type = f ∧ g.offset = i + j ∧ ∃ k, ti f = some k ∧ ∀ l, k ≠ .st l
  | [], [], _, _, _, _, h => by simp at h
  | f :: fs, g :: gs, i, 0, f', h, hj => by
    simp only [fieldsAre, Bool.and_eq_true] at h
    simp at hj; subst hj
    obtain ⟨⟨⟨h1, h2⟩, h3⟩, _⟩ := h
    refine ⟨g, by simp, by simpa using h1, by simpa using h2, ?_⟩
    cases hk : ti f with
    | none => rw [hk] at h3; simp at h3
    | some k => rw [hk] at h3; exact ⟨k, rfl, fun l hl => by subst hl; simp at h3⟩
  | f :: fs, g :: gs, i, j + 1, f', h, hj => by
    simp only [fieldsAre, Bool.and_eq_true] at h
    simp at hj
    obtain ⟨g', h1, h2, h3, h4⟩ := fieldsAre_get h.2 hj
    exact ⟨g', by simpa using h1, h2, by omega, h4⟩
  | [], _ :: _, _, _, _, h, _ => by simp [fieldsAre] at h
  | _ :: _, [], _, _, _, h, _ => by simp [fieldsAre] at h

theorem plen_sound {a : EV} {va : Value} {K : EV → Prop} {t : TypeId} (h : plen c.o ti t a K) (ha : EVR c a va) (ty : TypeId) :
    Reads P c (Builtin.len_ #[t] ty #[va]) K := by
  unfold plen at h
  split at h
  · rename_i s hs
    rw [evr_im ha]
    exact reads_im h rfl (by simp [Builtin.len_, underlying, desc_str H hs, goInt])
  · rename_i sz rows e hs
    simp only [EVR] at ha
    refine reads_im h rfl ?_
    cases ha <;> simp [Builtin.len_, underlying, (desc_sl H hs).1, goInt]
  · rename_i sz e hs
    simp only [EVR] at ha
    obtain ⟨a, rfl⟩ := ha
    exact reads_im h rfl (by simp [Builtin.len_, underlying, (desc_sl H hs).1, goInt])
  · rename_i n off len e hs
    obtain ⟨hn, h⟩ := h
    refine reads_im h rfl ?_
    simp only [EVR] at ha
    obtain ⟨ob, hob⟩ := Option.ne_none_iff_exists'.mp hn
    obtain ⟨sz, rows, rfl, hl, hm⟩ := ha.2 ob hob
    split at hm
    · obtain ⟨x, rfl, _, rfl⟩ := hm
      simp [Builtin.len_, underlying, (desc_sl H hs).1, goInt]
    · rcases hm with ⟨cap, k, rfl, _⟩ | ⟨rfl, a, rfl⟩ <;> simp [Builtin.len_, underlying, (desc_sl H hs).1, goInt]
  · exact h.elim

theorem pindex_sound {a i : EV} {va vi : Value} {K : EV → Prop} {t : TypeId} (h : pindex a i K) (ht : ti t = some .str) (ha : EVR c a va) (hi : EVR c i vi) :
    Reads P c (Instr.index t va vi) K := by
  unfold pindex at h
  split at h
  · obtain ⟨h0, b, hb, hk⟩ := h
    rw [evr_im ha, evr_im hi]
    exact reads_im hk rfl (by simp [Instr.index, asIntOf, underlying, desc_str H ht, h0, hb])
  · exact h.elim

theorem pindexAddr_sound {a i : EV} {va vi : Value} {K : EV → Prop} {t e : TypeId} {st : St} (hst : st.o = c.o) (h : pindexAddr st a i ti t K) (ht : ti t = some (.sl e))
    (ha : EVR c a va) (hi : EVR c i vi) : Reads P c (Instr.indexAt t va vi) K := by
  obtain ⟨hd, j, hj, hjs, _, _, _, _, _⟩ := desc_sl H ht
  have hes : elemSz ti t = szT ti e := by simp [elemSz, ht]
  unfold pindexAddr at h
  split at h
  · rw [evr_im hi]
    rename_i k i
    split at h
    · rename_i n off len
      rw [hst] at h
      split at h
      · rename_i sz rows hob
        obtain ⟨hsz, h0, h1, hk⟩ := h
        simp only [EVR] at ha
        obtain ⟨hn, ha⟩ := ha
        obtain ⟨sz', rows', he, hl, hm⟩ := ha _ hob
        simp only [Obj.arr.injEq] at he
        obtain ⟨rfl, rfl⟩ := he
        split at hm
        · obtain ⟨x, _, _, rfl⟩ := hm; omega
        · rename_i b base hβ
          rcases hm with ⟨cap, kk, rfl, hc, hb, hle⟩ | ⟨rfl, _⟩
          case inr => omega
          refine ⟨_, .pointer (some ⟨b, base + (off + i.toNat) * sz, none⟩), hk, ?_, ?_⟩
          · simp only [EVR]
            refine ⟨hn, fun ob hob' => ?_⟩
            rw [hob] at hob'
            simp only [Option.some.injEq] at hob'
            subst hob'
            exact ⟨b, base, hβ, by simp [Obj.sz]⟩
          · have e1 : (⟨b, base + off * sz, none⟩ : Addr).add (i.toNat * sz) = ⟨b, base + (off + i.toNat) * sz, none⟩ := by
              have : base + (off + i.toNat) * sz = base + off * sz + i.toNat * sz := by rw [Nat.add_mul]; omega
              rw [this]
              unfold Addr.add
              split
              · rename_i hz; simp [hz]
              · rfl
            simp [Instr.indexAt, asIntOf, underlying, hd, h0, h1, sizeOf, typeInfo, hj, hjs, ← hes, ← hsz, e1]
      · exact h.elim
    · rename_i sz rows
      obtain ⟨hsz, h0, r, hr, hk⟩ := h
      simp only [EVR] at ha
      have hlt : i.toNat < rows.length := (List.getElem?_eq_some_iff.mp hr).1
      cases ha with
      | nil a c sz => simp at hlt
      | sl b off cap sz rows f hS hc hz hv hrd =>
        refine ⟨_, .pointer (some ⟨b, off + i.toNat * sz, none⟩), hk, ?_, ?_⟩
        · simp only [EVR]
          exact ⟨b, _, rfl, hS, fun j x hx => ⟨_, hv i.toNat j r x hr hx, hrd i.toNat j r x hr hx⟩⟩
        · have e1 : (⟨b, off, none⟩ : Addr).add (i.toNat * sz) = ⟨b, off + i.toNat * sz, none⟩ := by
            unfold Addr.add
            split
            · rename_i hz; simp [hz]
            · rfl
          have h1 : i < (rows.length : Int) := by omega
          simp [Instr.indexAt, asIntOf, underlying, hd, h0, h1, sizeOf, typeInfo, hj, hjs, ← hes, ← hsz, e1]
    · exact h.elim
  · exact h.elim

end
end Go.RX

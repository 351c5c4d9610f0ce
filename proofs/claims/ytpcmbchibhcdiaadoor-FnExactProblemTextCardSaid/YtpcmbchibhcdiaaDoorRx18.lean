/- RX, part 18: the soundness of an operation. -/
import Derived.Test.YtpcmbchibhcdiaaDoorRx17
import Derived.Laws.IdiomStrings
import Derived.OrdersHeld
namespace Go.RX
open Go

section
variable {G : Nat → Prop} {w0 : World} {io : List (Nat × Nat)} {st : St} {a : Act} {w : World} {β : Beta}

/-- what stands behind an operation -/
def Nx (G : Nat → Prop) (w0 : World) (io : List (Nat × Nat)) (K : St → Prop) (a : Act) (w : World) : Prop := ∃ st β, K st ∧ SimB G w0 io st a w β

theorem op_val {P : Program} {o : Oper} {v : Value} {w' : World} {N : Act → World → Prop} {Q : Exit → Act → World → Prop} (hr : (execOp a.eval o).run P w = .ok (.value v) w')
    (hn : N (a.put o.dst v) w') : o.wp P a w N Q := by unfold Oper.wp; rw [hr]; exact hn

theorem op_reads {P : Program} {o : Oper} {s : Sem Value} {K : St → Prop} {Q : Exit → Act → World → Prop} (h : SimB G w0 io st a w β) (hr : Reads P (cxOf G w β st) s fun e => K (st.put o.dst e))
    (hx : execOp a.eval o = (do pure (.value (← s)))) : o.wp P a w (Nx G w0 io K) Q := by
  obtain ⟨e, v, hk, hev, hrun⟩ := hr
  have hrun' : s.run P w = .ok v w := hrun w (Keeps.refl _)
  exact op_val (w' := w) (by rw [hx]; simp [hrun']) ⟨_, β, hk, put_rel h hev⟩

theorem op_new {P : Program} {o : Oper} {s : Sem Value} {K : St → Prop} {Q : Exit → Act → World → Prop}
    (hr : ∃ st' ev' v' w' β', K (St.put st' o.dst ev') ∧ SimB G w0 io st' a w' β' ∧ EVR (cxOf G w' β' st') ev' v' ∧ s.run P w = .ok v' w')
    (hx : execOp a.eval o = (do pure (.value (← s)))) : o.wp P a w (Nx G w0 io K) Q := by
  obtain ⟨st', ev', v', w', β', hk, hs, hev, hrun⟩ := hr
  exact op_val (w' := w') (by rw [hx]; simp [hrun]) ⟨_, β', hk, put_rel hs hev⟩

theorem op_newK {P : Program} {o : Oper} {s : Sem Value} {K : St → Prop} {Q : Exit → Act → World → Prop}
    (hr : ∃ st' ev' v' w' β', Keeps w w' ∧ K (St.put st' o.dst ev') ∧ SimB G w0 io st' a w' β' ∧ EVR (cxOf G w' β' st') ev' v' ∧ s.run P w = .ok v' w')
    (hx : execOp a.eval o = (do pure (.value (← s)))) : o.wp P a w (fun a' w' => Keeps w w' ∧ Nx G w0 io K a' w') Q := by
  obtain ⟨st', ev', v', w', β', hkp, hk, hs, hev, hrun⟩ := hr
  exact op_val (w' := w') (by rw [hx]; simp [hrun]) ⟨hkp, _, β', hk, put_rel hs hev⟩

theorem newBox {P : Program} {s : Sem Value} {cs : Array Value} {T : TypeId} {es : List EV} {K : St → EV → Prop} (h : SimB G w0 io st a w β) (hf : EVRs (cxOf G w β st) es cs.toList)
    (hk : K (st.add (.box es)) (.ptr st.nx 0 0)) (hr : s.run P w = .ok (.pointer (some ⟨w.heap.size, 0, none⟩)) { w with heap := w.heap.push (.cells cs T) }) :
    ∃ st' ev' v' w' β', Keeps w w' ∧ K st' ev' ∧ SimB G w0 io st' a w' β' ∧ EVR (cxOf G w' β' st') ev' v' ∧ s.run P w = .ok v' w' := by
  obtain ⟨h1, _⟩ := new_rel (w' := { w with heap := w.heap.push (.cells cs T) }) (cs := cs) (T := T) (ob := .box es) h hf rfl
  refine ⟨_, _, _, _, _, keeps_push (x := .cells cs T) rfl, hk, h1, ?_, hr⟩
  simp only [EVR]
  refine ⟨Nat.lt_succ_self _, fun ob hob => ?_⟩
  have : ob = .box es := by
    have e1 : (st.add (.box es)).o st.nx = some (.box es) := upd_same _ _ _
    have hob' : (st.add (.box es)).o st.nx = some ob := hob
    rw [e1] at hob'; simpa using hob'.symm
  subst this
  exact ⟨w.heap.size, 0, upd_same _ _ _, by simp [Obj.sz]⟩

theorem pick_run {P : Program} {o : Oper} {c x y : Operand} (ho : o.op = .pick c x y) {b : Bool} (hc : a.eval c = .bool b) : (execOp a.eval o).run P w = .ok (.value (if b then a.eval x else a.eval y)) w := by
  simp [execOp, ho, asBool, hc]

theorem max_run {P : Program} {k : IntKind} {x y : Int} {ts : Array TypeId} {t : TypeId} : (Builtin.max_ ts t #[.int k x, .int k y]).run P w = .ok (.int k (if y > x then y else x)) w := by
  simp [Builtin.max_, Builtin.max2]

theorem callFunc_run {P : Program} {f : FuncId} {args : Array Value} (hc : Callable P f) : (callFunc f args).run P w = .ok (.enter f args) w := by
  obtain ⟨fn, h1, h2, h3⟩ := hc
  have h2' : fn.body ≠ none := by intro hb; rw [hb] at h2; simp at h2
  have h3' : fn.name ≠ "runtime.NumGoroutine" := by simpa using h3
  simp [callFunc, h1, h3', h2']


/-- the operations that only read -/
def rdOp : Op → Bool
  | .move _ | .assign _ | .pick _ _ _ | .build _ _ | .load _ _ | .nilCheck _ | .binOp _ _ _ _ _ | .unOp _ _ _ | .convert _ _ _ | .slice _ _ _ _ none | .fieldAddr _ _ _ | .field _ _ _ | .indexAddr _ _ _ | .index _ _ _ | .extract _ _ => true
  | .call { callee := .builtin .len, args := _, argTypes := _ } | .call { callee := .builtin .max, args := _, argTypes := _ } => true
  | _ => false
/-- one value, in every world in which the blocks stand -/
def RdN (P : Program) (o : Oper) (a : Act) (w : World) (N : Act → Prop) : Prop := ∃ v, (∀ w', Keeps w w' → (execOp a.eval o).run P w' = .ok (.value v) w') ∧ N (a.put o.dst v)
theorem op_val' {P : Program} {o : Oper} {v : Value} {N : Act → Prop} (hr : ∀ w', (execOp a.eval o).run P w' = .ok (.value v) w') (hn : N (a.put o.dst v)) : RdN P o a w N := ⟨v, fun w' _ => hr w', hn⟩
theorem op_reads' {P : Program} {o : Oper} {s : Sem Value} {K : St → Prop} (h : SimB G w0 io st a w β) (hr : Reads P (cxOf G w β st) s fun e => K (st.put o.dst e))
    (hx : execOp a.eval o = (do pure (.value (← s)))) : RdN P o a w (fun a' => Nx G w0 io K a' w) := by
  obtain ⟨e, v, hk, hev, hrun⟩ := hr
  exact ⟨v, fun w' hw' => by rw [hx]; have := hrun w' hw'; simp [this], _, β, hk, put_rel h hev⟩
theorem op_rd {P : Program} {o : Oper} {K : St → Prop} {Q : Exit → Act → World → Prop} (h : RdN P o a w (fun a' => Nx G w0 io K a' w)) : o.wp P a w (Nx G w0 io K) Q := by
  obtain ⟨v, hr, hn⟩ := h
  exact op_val (N := Nx G w0 io K) (hr w (Keeps.refl w)) hn

theorem op_read_sound {en : En} (H : TIok en.P en.ti) (h : SimB G w0 io st a w β) {o : Oper} {K : St → Prop}
    (hrd : rdOp o.op = true) (hk : EWop en o st K) : RdN en.P o a w (fun a' => Nx G w0 io K a' w) := by
  unfold EWop at hk
  split at hk
  · rename_i x ho
    exact op_val' (by simp [execOp, ho]) ⟨_, β, hk, put_rel h (evT_rel h _ _ x)⟩
  · rename_i x ho
    exact op_val' (by simp [execOp, ho]) ⟨_, β, hk, put_rel h (evT_rel h _ _ x)⟩
  · rename_i c x y ho
    split at hk
    case h_2 => exact hk.elim
    rename_i b hb
    have hc := ev_rel h c
    rw [hb] at hc
    have hc' := evr_im hc
    cases b
    · exact op_val' (fun _ => pick_run ho hc') ⟨_, β, hk.2 rfl, put_rel h (evT_rel h _ _ y)⟩
    · exact op_val' (fun _ => pick_run ho hc') ⟨_, β, hk.1 rfl, put_rel h (evT_rel h _ _ x)⟩
  · rename_i ho
    simp [rdOp, ho] at hrd
  · rename_i ho
    simp [rdOp, ho] at hrd
  · rename_i t ps ho
    have h1 := frzParts_rel (ps := ps.toList) h
    exact op_reads' h1 (pbuild_sound H h1 hk) (by simp [execOp, ho])
  · rename_i ho
    simp [rdOp, ho] at hrd
  · rename_i t x ho
    have h1 : SimB G w0 io (frzLoad en.ti t st (ev st x)) a w β := by
      unfold frzLoad; split
      · exact frzBox_rel h _
      · exact h
    exact op_reads' h1 (pload_sound H rfl h1.objs hk (ev_rel h1 x)) (by simp [execOp, ho])
  · rename_i ho
    simp [rdOp, ho] at hrd
  · rename_i x ho
    have hx := ev_rel h x
    split at hk
    case h_2 => exact hk.elim
    rename_i n r f hb
    obtain ⟨hn, hk⟩ := hk
    rw [hb] at hx
    obtain ⟨ad, hv⟩ := ptr_one (c := cxOf G w β st) hn hx
    exact op_val' (v := a.eval x) (by simp [execOp, ho, hv]) ⟨_, β, hk, put_rel h hx⟩
  · rename_i op t x y ty ho
    exact op_reads' h (pbinA_sound H hk (ev_rel h x) (ev_rel h y) x y) (by simp [execOp, ho])
  · rename_i op t x ho
    have hx := ev_rel h x
    unfold punop at hk
    split at hk
    · rename_i b hb
      rw [hb] at hx
      exact op_reads' (s := Op.unary .not (a.eval x)) h (by rw [evr_im hx]; exact reads_im hk rfl (by simp [Op.unary])) (by simp [execOp, ho])
    · rename_i k n hb
      rw [hb] at hx
      exact op_reads' (s := Op.unary .neg (a.eval x)) h (by rw [evr_im hx]; exact reads_im hk rfl (by simp [Op.unary, Op.intArith])) (by simp [execOp, ho])
    · exact hk.elim
  · rename_i src dst x ho
    have hx := ev_rel h x
    unfold pconvS at hk
    split at hk
    · rename_i n off len hb
      obtain ⟨⟨el, hsl, hel⟩, hds, rows, hob, l, hl0, hrows, hk⟩ := hk
      rw [hb] at hx
      obtain ⟨vals, hfl, hlen, hz, hc⟩ := own_cells h hob hx
      have hll : l.length = len := by rw [← hlen, hrows]; simp
      have hlp : 0 < l.length := List.length_pos_iff.mpr hl0
      rcases hc with ⟨b, base, cs, T, cap, hβ, hh, hv, hcap, hkc, hcells⟩ | ⟨ad, hv, h0⟩
      case inr => omega
      refine op_reads' (s := convert src dst (a.eval x)) h ⟨_, _, hk, evr_mk rfl, ?_⟩ (by simp [execOp, ho])
      intro w' hw'
      rw [hv, ← hll]
      refine run_convert_bytes_back w' src dst el _ cap l (desc_sl H hsl).1 (desc_int H hel) (desc_str H hds) ?_
      intro j hj
      rw [addr_add]
      refine hw'.cell ?_
      obtain ⟨u, hu, hrd⟩ := hfl.rd j 0 (byteRow l[j]) (.im (.int .u8 (l[j].toNat : Int))) (by rw [hrows]; simp [hj]) rfl
      have hu' : u = .int .u8 (l[j].toNat : Int) := by cases hrd; rfl
      subst hu'
      have := hcells _ _ hu
      simp only [cxOf, World.cell?, hh]
      simpa [Nat.add_assoc] using this
    unfold pconvert at hk
    split at hk
    · rename_i k1 k2 k3 n h1 h2 hb
      rw [hb] at hx
      exact op_reads' (s := convert src dst (a.eval x)) h (by rw [evr_im hx]; exact reads_im hk rfl (by simp [convert, underlying, desc_int H h1, desc_int H h2, Conv.intToInt])) (by simp [execOp, ho])
    · rename_i s h1 h2 hb
      rw [hb] at hx
      exact op_reads' (s := convert src dst (a.eval x)) h (by rw [evr_im hx]; exact reads_im hk rfl (by simp [convert, underlying, desc_str H h1, desc_str H h2])) (by simp [execOp, ho])
    · exact hk.elim
  · rename_i ho
    simp [rdOp, ho] at hrd
  · rename_i t x lo hi ho
    obtain ⟨hs, hk⟩ := hk
    refine op_reads' h (pslice_sound H h hk ?_) (by simp [execOp, ho])
    unfold slOk at hs
    split at hs
    · rename_i s h1 h2; exact .inl ⟨h1, s, h2⟩
    · rename_i e sz rows h1 h2; exact .inr ⟨⟨e, h1⟩, by rw [h2]; simp⟩
    · rename_i e n off len h1 h2; exact .inr ⟨⟨e, h1⟩, by rw [h2]; simp⟩
    · exact hs.elim
  · rename_i s x f ho
    have hx := ev_rel h x
    unfold pfieldAddr at hk
    split at hk
    case h_2 => exact hk.elim
    rename_i fs ht
    obtain ⟨hf, hk⟩ := hk
    obtain ⟨fields, i, hd, hfa, _⟩ := desc_st H ht
    obtain ⟨g, hg, hgt, hgo, k, hk1, hns⟩ := fieldsAre_get hfa (List.getElem?_eq_getElem hf)
    have hg' : fields[f]? = some g := by simpa using hg
    obtain ⟨j, hj, hjs⟩ := size_of H hk1
    have hs1 : j.size = 1 := by
      rw [hjs]; unfold szT; rw [hk1]; cases k <;> first | rfl | exact absurd rfl (hns _)
    have hj' : en.P.info? g.type = some j := by rw [hgt]; exact hj
    have hrun : ∀ b off (w : World), (Instr.fieldAt s (.pointer (some ⟨b, off, none⟩)) f).run en.P w = .ok (.pointer (some ⟨b, off + f, none⟩)) w := by
      intro b off w
      have hgo' : g.offset = f := by omega
      simp [Instr.fieldAt, underlying, hd, hg', Instr.sureAddr, fieldPlace, sizeOf, typeInfo, hj', hs1, addr_add, hgo']
    split at hk
    · rename_i n r fl hb
      obtain ⟨hn, hk⟩ := hk
      rw [hb] at hx
      have hx' := hx
      simp only [EVR] at hx
      obtain ⟨ob, hob⟩ := Option.isSome_iff_exists.mp hn
      obtain ⟨b, base, hβ, hv⟩ := hx.2 ob hob
      refine op_reads' (s := Instr.fieldAt s (a.eval x) f) h ⟨_, .pointer (some ⟨b, base + r * ob.sz + fl + f, none⟩), hk, ?_, by intro w' _; rw [hv]; exact hrun _ _ w'⟩ (by simp [execOp, ho])
      simp only [EVR]
      refine ⟨hx.1, fun ob' hob' => ?_⟩
      have : ob' = ob := by
        have h2 : st.o n = some ob' := hob'
        rw [hob] at h2; simpa using h2.symm
      subst this
      exact ⟨b, base, hβ, by simp [Nat.add_assoc]⟩
    · rename_i cells hb
      rw [hb] at hx
      simp only [EVR] at hx
      obtain ⟨b, off, hv, hS, hat⟩ := hx
      refine op_reads' (s := Instr.fieldAt s (a.eval x) f) h ⟨_, .pointer (some ⟨b, off + f, none⟩), hk, ?_, by intro w' _; rw [hv]; exact hrun _ _ w'⟩ (by simp [execOp, ho])
      simp only [EVR]
      exact ⟨b, off + f, rfl, hS, hat.drop f⟩
    · exact hk.elim
  · rename_i s x f ho
    have hx := ev_rel h x
    unfold pfield at hk
    split at hk
    case h_2 => exact hk.elim
    rename_i fs cells ht hb
    obtain ⟨hf, d, hd, hk⟩ := hk
    obtain ⟨fields, i, hdd, hfa, _⟩ := desc_st H ht
    obtain ⟨g, hg, hgt, hgo, k, hk1, hns⟩ := fieldsAre_get hfa (List.getElem?_eq_getElem hf)
    have hg' : fields[f]? = some g := by simpa using hg
    rw [hb] at hx
    simp only [EVR] at hx
    obtain ⟨vs, hv, hr⟩ := hx
    obtain ⟨u, hu, hrd⟩ := hr.get hd
    have hia : ∀ w : World, (isAgg g.type).run en.P w = .ok false w := by
      intro w
      rw [hgt]
      refine (isSt_some H ?_).1 w
      unfold isSt; rw [hk1]; cases k <;> first | rfl | exact absurd rfl (hns _)
    refine op_reads' (s := Instr.field s (a.eval x) f) h ⟨_, u, hk, by simpa only [EVR] using hrd, ?_⟩ (by simp [execOp, ho])
    have hgo' : g.offset = f := by omega
    rw [hv]
    simp [Instr.field, underlying, hdd, hg', asAgg, part, cxOf, hia, hgo', hu]
  · rename_i t x i ho
    obtain ⟨⟨e, ht⟩, hk⟩ := hk
    exact op_reads' h (pindexAddr_sound H rfl hk ht (ev_rel h x) (ev_rel h i)) (by simp [execOp, ho])
  · rename_i t x i ho
    exact op_reads' h (pindex_sound H hk.2 hk.1 (ev_rel h x) (ev_rel h i)) (by simp [execOp, ho])
  · rename_i x i ho
    have hx := ev_rel h x
    split at hk
    case h_2 => exact hk.elim
    rename_i es hb
    obtain ⟨e, he, hk⟩ := hk
    rw [hb] at hx
    simp only [EVR] at hx
    obtain ⟨vs, hv, hr⟩ := hx
    obtain ⟨u, hu, hev⟩ := EVRs.get' hr he
    refine op_reads' (s := Instr.extract (a.eval x) i) h ⟨_, u, hk, hev, ?_⟩ (by simp [execOp, ho])
    rw [hv]
    simp [Instr.extract, hu]
  · rename_i b args argTypes ho
    unfold pbuiltin at hk
    split at hk
    · rename_i t x h1 h2
      have ha : args = #[x] := by apply Array.ext'; simpa using h2
      have ht : argTypes = #[t] := by apply Array.ext'; simpa using h1
      subst ha; subst ht
      exact op_reads' (s := Builtin.len_ #[t] o.type #[a.eval x]) h (plen_sound H hk (evT_rel h en.ti t x) o.type) (by simp [execOp, ho, resolve, invoke, builtin])
    · rename_i h1 h2
      simp [rdOp, ho] at hrd
    · rename_i h1 h2
      simp [rdOp, ho] at hrd
    · rename_i x y h2
      have ha : args = #[x, y] := by apply Array.ext'; simpa using h2
      subst ha
      have hx := ev_rel h x
      have hy := ev_rel h y
      unfold pmax at hk
      split at hk
      case h_2 => exact hk.elim
      rename_i k p k' q h3 h4
      obtain ⟨rfl, hk⟩ := hk
      rw [h3] at hx; rw [h4] at hy
      exact op_reads' (s := Builtin.max_ argTypes o.type #[a.eval x, a.eval y]) h (by rw [evr_im hx, evr_im hy]; exact reads_im hk rfl (fun _ => max_run)) (by simp [execOp, ho, resolve, invoke, builtin])
    · exact hk.elim
  · rename_i ho
    simp [rdOp, ho] at hrd
  · exact hk.elim

/-- the operations that lay a new block and do nothing else -/
def pushOp : Op → Bool
  | .alloc _ | .box _ _ | .buildSlice _ _ _ | .makeSlice _ _ _ => true
  | _ => false
theorem op_push_sound {en : En} (H : TIok en.P en.ti) (h : SimB G w0 io st a w β) {o : Oper} {K : St → Prop} {Q : Exit → Act → World → Prop} (hpu : pushOp o.op = true)
    (hk : EWop en o st K) : o.wp en.P a w (fun a' w' => Keeps w w' ∧ Nx G w0 io K a' w') Q := by
  unfold EWop at hk
  split at hk
  · rename_i ho
    simp [pushOp, ho] at hpu
  · rename_i ho
    simp [pushOp, ho] at hpu
  · rename_i ho
    simp [pushOp, ho] at hpu
  · rename_i e ho
    obtain ⟨es, hes, hk⟩ := hk
    obtain ⟨i, z, hi, hz, hzc, _⟩ := zeroBox_run H hes
    exact op_newK (s := Instr.alloc e true (.tuple #[])) (newBox (K := fun st' ev' => K (st'.put o.dst ev')) (T := e) h (hzc _) hk (by simp [Instr.alloc, zeroValue, typeInfo, hi, hz, newVar, newRow])) (by simp [execOp, ho])
  · rename_i e x ho
    obtain ⟨es, hes, hk⟩ := hk
    have hx := evT_rel h en.ti e x
    exact op_newK (s := Instr.box e (a.eval x)) (newBox (K := fun st' ev' => K (st'.put o.dst ev')) (T := e) h (boxCells_rel (c := cxOf G w β st) rfl hx hes).1 hk (by simp [Instr.box, newVar, newRow])) (by simp [execOp, ho])
  · rename_i ho
    simp [pushOp, ho] at hpu
  · rename_i t len ps ho
    have h1 := frzParts_rel (ps := ps.toList) h
    exact op_newK (pbuildSlice_sound H h1 hk) (by simp [execOp, ho])
  · rename_i ho
    simp [pushOp, ho] at hpu
  · rename_i ho
    simp [pushOp, ho] at hpu
  · rename_i ho
    simp [pushOp, ho] at hpu
  · rename_i ho
    simp [pushOp, ho] at hpu
  · rename_i ho
    simp [pushOp, ho] at hpu
  · rename_i ho
    simp [pushOp, ho] at hpu
  · rename_i t l c ho
    exact op_newK (pmake_sound H h hk (ev_rel h l) (ev_rel h c)) (by simp [execOp, ho])
  · rename_i ho
    simp [pushOp, ho] at hpu
  · rename_i ho
    simp [pushOp, ho] at hpu
  · rename_i ho
    simp [pushOp, ho] at hpu
  · rename_i ho
    simp [pushOp, ho] at hpu
  · rename_i ho
    simp [pushOp, ho] at hpu
  · rename_i ho
    simp [pushOp, ho] at hpu
  · rename_i ho
    simp [pushOp, ho] at hpu
  · rename_i ho
    simp [pushOp, ho] at hpu
  · exact hk.elim

theorem op_sound {en : En} (H : TIok en.P en.ti) (h : SimB G w0 io st a w β) (hW : Ext en.W0 w0) (hio : ∀ b ∈ ioB io, en.W0.heap.size ≤ b) {o : Oper} {K : St → Prop} {Q : Exit → Act → World → Prop}
    (hk : EWop en o st K) : o.wp en.P a w (Nx G w0 io K) Q := by
  by_cases hrd : rdOp o.op = true
  case pos => exact op_rd (op_read_sound H h hrd hk)
  by_cases hpu : pushOp o.op = true
  case pos => exact Oper.wp_mono (fun _ _ h => h.2) (op_push_sound H h hpu hk)
  unfold EWop at hk
  split at hk
  · rename_i ho
    exact absurd (by simp [rdOp, ho]) hrd
  · rename_i ho
    exact absurd (by simp [rdOp, ho]) hrd
  · rename_i ho
    exact absurd (by simp [rdOp, ho]) hrd
  · rename_i ho
    exact absurd (by simp [pushOp, ho]) hpu
  · rename_i ho
    exact absurd (by simp [pushOp, ho]) hpu
  · rename_i ho
    exact absurd (by simp [rdOp, ho]) hrd
  · rename_i ho
    exact absurd (by simp [pushOp, ho]) hpu
  · rename_i ho
    exact absurd (by simp [rdOp, ho]) hrd
  · rename_i t x v ho
    obtain ⟨hd, hk⟩ := hk
    have h1 : SimB G w0 io (frzStore st (ev st x) (evT en.ti t st v)) a w β := by
      unfold frzStore; split
      · split
        · exact frzOf_rel h _
        · exact h
      · exact h
    obtain ⟨st', w', hk', hs, hrun⟩ := pstore_sound H h1 hk (ev_rel h1 x) (evT_rel h1 en.ti t v)
    unfold Oper.wp
    rw [show execOp a.eval o = (do Instr.storeAt t (a.eval x) (a.eval v); pure .skip) by simp [execOp, ho]]
    simp only [Sem.run_bind, hrun, Result.andThen_ok, Sem.run_pure, Oper.upon]
    rw [hd]
    exact ⟨st', β, hk', hs⟩
  · rename_i ho
    exact absurd (by simp [rdOp, ho]) hrd
  · rename_i ho
    exact absurd (by simp [rdOp, ho]) hrd
  · rename_i ho
    exact absurd (by simp [rdOp, ho]) hrd
  · rename_i ho
    exact absurd (by simp [rdOp, ho]) hrd
  · rename_i ho
    exact absurd (by simp [pushOp, ho]) hpu
  · rename_i ho
    exact absurd (by simp [rdOp, ho]) hrd
  · rename_i ho
    exact absurd (by simp [rdOp, ho]) hrd
  · rename_i ho
    exact absurd (by simp [rdOp, ho]) hrd
  · rename_i ho
    exact absurd (by simp [rdOp, ho]) hrd
  · rename_i ho
    exact absurd (by simp [rdOp, ho]) hrd
  · rename_i ho
    exact absurd (by simp [rdOp, ho]) hrd
  · rename_i b args argTypes ho
    unfold pbuiltin at hk
    split at hk
    · exact absurd (by simp [rdOp, ho]) hrd
    · rename_i t tx s x h1 h2
      have ha : args = #[s, x] := by apply Array.ext'; simpa using h2
      have ht : argTypes = #[t, tx] := by apply Array.ext'; simpa using h1
      subst ha; subst ht
      obtain ⟨⟨e, he⟩, ⟨e', he'⟩, hk⟩ := hk
      exact op_new (s := Builtin.append_ #[t, tx] o.type #[a.eval s, a.eval x]) (pappend_sound H h he he' hk (evT_rel h en.ti t s) (evT_rel h en.ti tx x)) (by simp [execOp, ho, resolve, invoke, builtin])
    · rename_i t tx s x h1 h2
      have ha : args = #[s, x] := by apply Array.ext'; simpa using h2
      have ht : argTypes = #[t, tx] := by apply Array.ext'; simpa using h1
      subst ha; subst ht
      obtain ⟨⟨e, he⟩, ⟨e', he'⟩, hk⟩ := hk
      obtain ⟨st', ev', v', w', hk', hs, hev, hrun⟩ := pcopy_sound (ty := o.type) H h he he' hk (evT_rel h en.ti t s) (evT_rel h en.ti tx x)
      exact op_new (s := Builtin.copy_ #[t, tx] o.type #[a.eval s, a.eval x]) ⟨st', ev', v', w', β, hk', hs, hev, hrun⟩ (by simp [execOp, ho, resolve, invoke, builtin])
    · exact absurd (by simp [rdOp, ho]) hrd
    · exact hk.elim
  · rename_i f args argTypes ho
    have hf := ev_rel h f
    split at hk
    case h_2 => exact hk.elim
    rename_i f' fs cs hb
    obtain ⟨rfl, rfl, hk⟩ := hk
    rw [hb] at hf
    have hv := evr_im hf
    obtain ⟨hc, hcalls⟩ := EWcall_sound h hW hio hk
    have hrun : (execOp a.eval o).run en.P w = .ok (.enter f' (args.map a.eval)) w := by
      simp [execOp, ho, resolve, Deferred.ofValue, hv, invoke, callFunc_run hc]
    unfold Oper.wp
    rw [hrun, Oper.upon_enter]
    have e1 : (args.toList.map a.eval).toArray = args.map a.eval := by apply Array.ext'; simp
    rw [e1] at hcalls
    refine hcalls.mono ?_
    rintro e w' ⟨v, rfl, -, st', β', hk', hs⟩
    exact ⟨st', β', hk', hs⟩
  · exact hk.elim
end
end Go.RX

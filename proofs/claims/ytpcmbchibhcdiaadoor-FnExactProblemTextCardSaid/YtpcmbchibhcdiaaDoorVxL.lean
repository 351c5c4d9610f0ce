/- VX: an operation reads what it is said to read. -/
import Derived.Test.YtpcmbchibhcdiaaDoorVxD
namespace Go.RX
open Go

/-! ### temporaries -/
def opAg (t t' : VT) : Operand → Prop
  | .tmp d => lk t d = lk t' d
  | _ => True
variable {t t' : VT}
theorem vo_ag {x : Operand} (h : opAg t t' x) : vo t x = vo t' x := by
  cases x with
  | tmp d => simp only [vo, show lk t d = lk t' d from h]
  | _ => rfl
theorem voT_ag {ty : TypeId → Option Ty} {tt : TypeId} {x : Operand} (h : opAg t t' x) : voT ty tt t x = voT ty tt t' x := by
  unfold voT
  split
  · rfl
  · exact vo_ag h
theorem vopTup_ag {i : Nat} {x : Operand} (h : opAg t t' x) : vopTup t i x = vopTup t' i x := by
  cases x with
  | tmp d => simp only [vopTup, show lk t d = lk t' d from h]
  | _ => rfl
theorem vmove_ag {ty : TypeId → Option Ty} {tt : TypeId} {x : Operand} (h : opAg t t' x) : vmove ty tt t x = vmove ty tt t' x := by
  cases x with
  | tmp d => funext K; simp only [vmove, show lk t d = lk t' d from h]
  | _ => funext K; simp only [vmove]; rw [voT_ag h]
theorem vparts_ag : ∀ {ps : List (Nat × Operand)}, (∀ x ∈ ps.map (·.2), opAg t t' x) → vparts t ps = vparts t' ps
  | [], _ => rfl
  | p :: ps, h => by
    have h1 := vparts_ag (ps := ps) fun x hx => h x (by simp at hx ⊢; exact .inr hx)
    simp only [vparts, List.map_cons] at h1 ⊢
    rw [h1, vo_ag (h p.2 (by simp))]
theorem vbnd_ag {x : Option Operand} (h : ∀ y, x = some y → opAg t t' y) {d : Int} : vbnd t x d = vbnd t' x d := by
  cases x with
  | none => rfl
  | some x => funext K; simp only [vbnd, vo_ag (h x rfl)]
theorem voTs_ag {ty : TypeId → Option Ty} : ∀ {ts : List TypeId} {xs : List Operand}, (∀ x ∈ xs, opAg t t' x) → voTs ty t ts xs = voTs ty t' ts xs
  | [], _, _ => rfl
  | _ :: _, [], _ => rfl
  | s :: ts, x :: xs, h => by
    have h1 := voTs_ag (ty := ty) (ts := ts) (xs := xs) fun x hx => h x (by simp [hx])
    simp only [voTs, List.zip_cons_cons, List.map_cons] at h1 ⊢
    rw [h1, voT_ag (h x (by simp))]
theorem vslice_ag {ty : TypeId → Option Ty} {h : VH} {tt : TypeId} {a : TA} {lo hi : Option Operand} (h1 : ∀ y, lo = some y → opAg t t' y) (h2 : ∀ y, hi = some y → opAg t t' y) : vslice ty h t tt a lo hi = vslice ty h t' tt a lo hi := by
  funext K
  cases a with
  | v T x => cases T <;> simp only [vslice, vbnd_ag h1, vbnd_ag h2]
  | own n sg => simp only [vslice, vbnd_ag h1, vbnd_ag h2]
  | _ => rfl
theorem vop_agT {en : VEn} {b : Nat} {h : VH} {o : Oper} (ht : ∀ x ∈ o.op.operands.toList, opAg t t' x) : vop en b h t o = vop en b h t' o := by
  obtain ⟨dst, op, ty, sp, after, guard⟩ := o
  simp only at ht
  funext K
  cases op with
  | move x => simp only [vop, vmove_ag (ht x (by simp [Op.operands]))]
  | assign x => simp only [vop, voT_ag (ht x (by simp [Op.operands]))]
  | pick c x y => simp only [vop, vo_ag (ht c (by simp [Op.operands])), voT_ag (ht x (by simp [Op.operands])), voT_ag (ht y (by simp [Op.operands]))]
  | alloc e => rfl
  | box e x => simp only [vop, voT_ag (ht x (by simp [Op.operands]))]
  | build tt ps => simp only [vop, vparts_ag (t := t) (t' := t') (ps := ps.toList) (fun x hx => ht x (by simpa [Op.operands] using hx))]
  | buildSlice tt len ps => simp only [vop, vparts_ag (t := t) (t' := t') (ps := ps.toList) (fun x hx => ht x (by simpa [Op.operands] using hx))]
  | load tt x => simp only [vop, vo_ag (ht x (by simp [Op.operands]))]
  | store tt x v => simp only [vop, vo_ag (ht x (by simp [Op.operands])), voT_ag (ht v (by simp [Op.operands]))]
  | nilCheck x => simp only [vop, vo_ag (ht x (by simp [Op.operands]))]
  | binOp op tt x y _ => simp only [vop, vo_ag (ht x (by simp [Op.operands])), vo_ag (ht y (by simp [Op.operands]))]
  | unOp op _ x => simp only [vop, vo_ag (ht x (by simp [Op.operands]))]
  | convert src dst x => simp only [vop, vo_ag (ht x (by simp [Op.operands]))]
  | makeSlice tt l c => simp only [vop, vo_ag (ht l (by simp [Op.operands])), vo_ag (ht c (by simp [Op.operands]))]
  | slice tt x lo hi m =>
    cases m with
    | none => simp only [vop, vo_ag (ht x (by simp [Op.operands])), vslice_ag (t := t) (t' := t') (lo := lo) (hi := hi) (fun y hy => ht y (by simp [Op.operands, hy])) (fun y hy => ht y (by simp [Op.operands, hy]))]
    | some m => rfl
  | fieldAddr s x f => simp only [vop, vo_ag (ht x (by simp [Op.operands]))]
  | field s x f => simp only [vop, vo_ag (ht x (by simp [Op.operands]))]
  | indexAddr tt x i => simp only [vop, vo_ag (ht x (by simp [Op.operands])), vo_ag (ht i (by simp [Op.operands]))]
  | index tt x i => simp only [vop, vo_ag (ht x (by simp [Op.operands])), vo_ag (ht i (by simp [Op.operands]))]
  | extract x i => simp only [vop, vopTup_ag (ht x (by simp [Op.operands]))]
  | call c =>
    obtain ⟨callee, args, ats⟩ := c
    cases callee with
    | builtin f =>
      have ha : ∀ x ∈ args.toList, opAg t t' x := fun x hx => ht x (by simp [Op.operands, Call.operands]; simpa using hx)
      simp only [vop]
      generalize args.toList = xs at ha
      generalize ats.toList = ts
      unfold vbuiltin
      split
      · rw [voT_ag (ha _ (by simp))]
      · rw [voT_ag (ha _ (by simp)), voT_ag (ha _ (by simp))]
      · rw [voT_ag (ha _ (by simp)), voT_ag (ha _ (by simp))]
      · rw [vo_ag (ha _ (by simp)), vo_ag (ha _ (by simp))]
      · rfl
    | value f =>
      have ha : ∀ x ∈ args.toList, opAg t t' x := fun x hx => ht x (by simp [Op.operands, Call.operands]; simp at hx; simp [hx])
      simp only [vop, vo_ag (ht f (by simp [Op.operands, Call.operands]))]
      unfold vcallee
      split
      · rw [voTs_ag ha]
      · rfl
    | _ => rfl
  | _ => rfl

/-! ### memory -/
def Ag (N : List Nat) (h h' : VH) : Prop := ∀ n ∈ N, hget h n = hget h' n
def Nm (N : List Nat) (as : List TA) : Prop := ∀ n ∈ namesL as, n ∈ N
/-- the names that a value reaches -/
def In (N : List Nat) (h : VH) (a : TA) : Prop := ∀ n ∈ fpA h a, n ∈ N
def InL (N : List Nat) (h : VH) (as : List TA) : Prop := ∀ a ∈ as, In N h a
variable {N : List Nat} {h h' : VH}
theorem Ag.cons (H : Ag N h h') (u : Nat × Slot) : Ag N (u :: h) (u :: h') := by
  intro n hn
  obtain ⟨m, s⟩ := u
  rw [hget_cons, hget_cons, H n hn]
theorem Ag.hup : ∀ {us : Ups} {h h' : VH}, Ag N h h' → Ag N (hup h us) (hup h' us)
  | [], _, _, H => H
  | u :: us, _, _, H => Ag.hup (us := us) (H.cons u)
theorem Nm.cons {a : TA} {as : List TA} (H : Nm N (a :: as)) : Nm N [a] ∧ Nm N as := by
  cases a <;> simp [Nm, namesL] at H ⊢ <;> first | exact H | exact ⟨H.1, H.2⟩
theorem In.nm {a : TA} (H : In N h a) : Nm N [a] := by
  cases a <;> simp [In, Nm, namesL, fpA] at H ⊢ <;> first | exact H | exact H.1
theorem Nm.drop {as : List TA} (H : Nm N as) : ∀ k, Nm N (as.drop k) := by
  intro k
  induction k generalizing as with
  | zero => exact H
  | succ k ih =>
    cases as with
    | nil => exact H
    | cons a as => exact ih H.cons.2
theorem InL.nm : ∀ {as : List TA}, InL N h as → Nm N as
  | [], _ => by simp [Nm, namesL]
  | a :: as, H => by
    have h1 := InL.nm (as := as) fun x hx => H x (by simp [hx])
    have h2 := (H a (by simp)).nm
    cases a <;> simp [Nm, namesL] at h1 h2 ⊢ <;> first | exact h1 | exact ⟨h2, h1⟩
theorem In.box {n : Nat} {row : Int} {fld : Nat} {cells : List TA} (H : In N h (.ptr n row fld)) (hs : hget h n = .box cells) : Nm N cells := by
  intro m hm
  exact H m (by simp [fpA, fpS, hs, hm])
theorem In.ptr {n : Nat} {row : Int} {fld : Nat} (H : In N h (.ptr n row fld)) : n ∈ N := H n (by simp [fpA])
theorem In.own {n : Nat} {sg : Option (Int × Int)} (H : In N h (.own n sg)) : n ∈ N := H n (by simp [fpA])
theorem Nm.own {n : Nat} {sg : Option (Int × Int)} {as : List TA} (H : Nm N (.own n sg :: as)) : n ∈ N := H n (by simp [namesL])
theorem Nm.ptr {n : Nat} {row : Int} {fld : Nat} {as : List TA} (H : Nm N (.ptr n row fld :: as)) : n ∈ N := H n (by simp [namesL])

theorem asD_ag (H : Ag N h h') {T : Ty} {a : TA} (ha : Nm N [a]) : asD h T a = asD h' T a := by
  cases a with
  | own n sg => funext K; simp only [asD, H n ha.own]
  | _ => rfl
theorem setF_ag (H : Ag N h h') {a : TA} (ha : Nm N [a]) : ∀ (T : Ty) (x : T.den) (i : Nat), setF h T x i a = setF h' T x i a
  | .cons f r, x, 0 => by funext K; simp only [setF, asD_ag H ha]
  | .cons f r, x, i + 1 => by funext K; simp only [setF, setF_ag H ha r x.2 i]
  | .int k, x, 0 => by funext K; simp only [setF, asD_ag H ha]
  | .bool, x, 0 => by funext K; simp only [setF, asD_ag H ha]
  | .str, x, 0 => by funext K; simp only [setF, asD_ag H ha]
  | .byte, x, 0 => by funext K; simp only [setF, asD_ag H ha]
  | .sl r, x, 0 => by funext K; simp only [setF, asD_ag H ha]
  | .int k, x, i + 1 => rfl
  | .bool, x, i + 1 => rfl
  | .str, x, i + 1 => rfl
  | .byte, x, i + 1 => rfl
  | .sl r, x, i + 1 => rfl
theorem fillV_ag (H : Ag N h h') {T : Ty} : ∀ {ps : List (Nat × TA)} (_ : Nm N (partTAs ps)) (x : T.den), fillV h T ps x = fillV h' T ps x
  | [], _, x => rfl
  | (i, a) :: ps, hp, x => by
    have hp' : Nm N (a :: partTAs ps) := hp
    funext K
    have : ∀ y, fillV h T ps y K = fillV h' T ps y K := fun y => by rw [fillV_ag H hp'.cons.2]
    simp only [fillV, setF_ag H hp'.cons.1, this]
theorem rowD_ag (H : Ag N h h') {T : Ty} {a : TA} (ha : Nm N [a]) : rowD h T a = rowD h' T a := by
  funext K
  cases T with
  | cons f r => cases a <;> rfl
  | _ => simp only [rowD, asD_ag H ha]
theorem rowsV_ag (H : Ag N h h') {T : Ty} {len : Nat} : ∀ {ps : List (Nat × TA)} (_ : Nm N (partTAs ps)) (xs : List T.den), rowsV h T len ps xs = rowsV h' T len ps xs
  | [], _, x => rfl
  | (i, a) :: ps, hp, xs => by
    have hp' : Nm N (a :: partTAs ps) := hp
    funext K
    have : ∀ y : List T.den, rowsV h T len ps y K = rowsV h' T len ps y K := fun y => by rw [rowsV_ag H hp'.cons.2]
    simp only [rowsV, rowD_ag H hp'.cons.1, this]
theorem packT_ag (H : Ag N h h') : ∀ (T : Ty) {as : List TA} (_ : Nm N as), packT h T as = packT h' T as
  | .cons f r, a :: as, ha => by funext K; simp only [packT, asD_ag H ha.cons.1, packT_ag H r ha.cons.2]
  | .cons f r, [], _ => rfl
  | .int k, a :: as, ha => by funext K; simp only [packT, asD_ag H ha.cons.1]
  | .bool, a :: as, ha => by funext K; simp only [packT, asD_ag H ha.cons.1]
  | .str, a :: as, ha => by funext K; simp only [packT, asD_ag H ha.cons.1]
  | .byte, a :: as, ha => by funext K; simp only [packT, asD_ag H ha.cons.1]
  | .sl r, a :: as, ha => by funext K; simp only [packT, asD_ag H ha.cons.1]
  | .int k, [], _ => rfl
  | .bool, [], _ => rfl
  | .str, [], _ => rfl
  | .byte, [], _ => rfl
  | .sl r, [], _ => rfl
theorem setRow_ag (H : Ag N h h') {tT T : Ty} {x : T.den} {fld : Nat} {a : TA} (ha : Nm N [a]) : setRow h tT T x fld a = setRow h' tT T x fld a := by
  funext K
  cases a with
  | v T' y => cases T' <;> first | rfl | simp only [setRow, setF_ag H ha]
  | _ => simp only [setRow, setF_ag H ha]
theorem frz1_ag (H : Ag N h h') {a : TA} (ha : Nm N [a]) : frz1 h a = frz1 h' a := by
  cases a with
  | own n sg => simp only [frz1, H n ha.own]
  | _ => rfl
theorem frzL_ag : ∀ {as : List TA} {h h' : VH}, Ag N h h' → Nm N as → frzL h as = frzL h' as
  | [], _, _, _, _ => rfl
  | a :: as, h, h', H, ha => by
    simp only [frzL, frz1_ag H ha.cons.1]
    rw [frzL_ag H.hup ha.cons.2]
theorem solid_ag (H : Ag N h h') {a : TA} (ha : Nm N [a]) : solid h a = solid h' a := by
  cases a with
  | own n sg => simp only [solid, H n ha.own]
  | ptr n row fld => simp only [solid, H n ha.ptr]
  | _ => rfl
theorem solidL_ag (H : Ag N h h') : ∀ {as : List TA}, Nm N as → solidL h as = solidL h' as
  | [], _ => rfl
  | a :: as, ha => by simp only [solidL, solid_ag H ha.cons.1, solidL_ag H ha.cons.2]
theorem solidS_ag : ∀ {as : List TA} {h h' : VH}, Ag N h h' → Nm N as → solidS h as = solidS h' as
  | [], _, _, _, _ => rfl
  | a :: as, h, h', H, ha => by
    simp only [solidS, solid_ag H ha.cons.1, frz1_ag H ha.cons.1]
    rw [solidS_ag H.hup ha.cons.2]
theorem cellVV_ag (H : Ag N h h') {a : TA} (ha : Nm N [a]) : cellVV h a = cellVV h' a := by
  cases a with
  | own n sg => simp only [cellVV, H n ha.own]
  | v T x => cases T <;> rfl
  | _ => rfl
theorem cellsVV_ag (H : Ag N h h') : ∀ {as : List TA}, Nm N as → cellsVV h as = cellsVV h' as
  | [], _ => rfl
  | a :: as, ha => by simp only [cellsVV, cellVV_ag H ha.cons.1, cellsVV_ag H ha.cons.2]
theorem boxTAs_ag (H : Ag N h h') {a : TA} (ha : Nm N [a]) : boxTAs h a = boxTAs h' a := by
  cases a with
  | own n sg => simp only [boxTAs, H n ha.own]
  | ptr n row fld => simp only [boxTAs, H n ha.ptr]
  | _ => rfl

/-- freezing leaves boxes as they are -/
def SameB (h h' : VH) : Prop := ∀ n, fpS (hget h n) = fpS (hget h' n)
theorem SameB.rfl {h : VH} : SameB h h := fun _ => Eq.refl _
theorem SameB.trans {h1 h2 h3 : VH} (x : SameB h1 h2) (y : SameB h2 h3) : SameB h1 h3 := fun n => (x n).trans (y n)
theorem sameB_frz1 {a : TA} : SameB h (hup h (frz1 h a)) := by
  intro m
  cases a with
  | own n sg =>
    simp only [frz1]
    split
    · rename_i T rows hs
      simp only [hup, hget_cons]
      split
      · rename_i he; subst he; rw [hs]; rfl
      · rfl
    · rfl
  | _ => rfl
theorem hup_append' : ∀ (us ws : Ups) (h : VH), hup h (us ++ ws) = hup (hup h us) ws
  | [], _, _ => rfl
  | u :: us, ws, h => hup_append' us ws (u :: h)
theorem sameB_frzL : ∀ {as : List TA} {h : VH}, SameB h (hup h (frzL h as))
  | [], _ => SameB.rfl
  | a :: as, h => by
    simp only [frzL, hup_append']
    exact sameB_frz1.trans sameB_frzL
theorem sameB_frzB {a : TA} : SameB h (hup h (frzB h a)) := by
  cases a with
  | ptr n row fld =>
    simp only [frzB]
    split
    · exact sameB_frzL
    · exact SameB.rfl
  | _ => exact SameB.rfl
theorem sameB_frzA {fresh : Bool} {a : TA} : SameB h (hup h (frzA fresh h a)) := by
  simp only [frzA, hup_append']
  refine SameB.trans ?_ sameB_frzB
  cases fresh
  · exact sameB_frz1
  · exact SameB.rfl
theorem In.same {g : VH} (hb : SameB h g) {a : TA} (ha : In N h a) : In N g a := by
  cases a with
  | ptr n row fld => intro m hm; refine ha m ?_; simp only [fpA] at hm ⊢; rw [hb n]; exact hm
  | _ => exact ha
theorem frzB_ag (H : Ag N h h') {a : TA} (ha : In N h a) : frzB h a = frzB h' a := by
  cases a with
  | ptr n row fld =>
    simp only [frzB, ← H n ha.ptr]
    split
    · rename_i cells hs; exact frzL_ag H (ha.box hs)
    · rfl
  | _ => rfl
theorem frzA_ag (H : Ag N h h') {fresh : Bool} {a : TA} (ha : In N h a) : frzA fresh h a = frzA fresh h' a := by
  cases fresh with
  | true =>
    show [] ++ frzB h a = [] ++ frzB h' a
    rw [frzB_ag H ha]
  | false =>
    show frz1 h a ++ frzB (hup h (frz1 h a)) a = frz1 h' a ++ frzB (hup h' (frz1 h' a)) a
    rw [← frz1_ag H ha.nm, frzB_ag (H.hup (us := frz1 h a)) (ha.same sameB_frz1)]
theorem frzAs_ag {fresh : Bool} : ∀ {as : List TA} {h h' : VH}, Ag N h h' → InL N h as → frzAs fresh h as = frzAs fresh h' as
  | [], _, _, _, _ => rfl
  | a :: as, h, h', H, ha => by
    simp only [frzAs, ← frzA_ag H (ha a (by simp))]
    rw [frzAs_ag H.hup fun x hx => (ha x (by simp [hx])).same sameB_frzA]
theorem sameB_frzAs {fresh : Bool} : ∀ {as : List TA} {h : VH}, SameB h (hup h (frzAs fresh h as))
  | [], _ => SameB.rfl
  | a :: as, h => by
    simp only [frzAs, hup_append']
    exact sameB_frzA.trans sameB_frzAs
theorem solidB_ag (H : Ag N h h') {a : TA} (ha : In N h a) : solidB h a = solidB h' a := by
  cases a with
  | ptr n row fld =>
    simp only [solidB, ← H n ha.ptr]
    split
    · rename_i cells hs; exact solidL_ag H (ha.box hs)
    · rfl
  | _ => rfl
theorem argV_ag (H : Ag N h h') {fresh : Bool} {a : TA} (ha : In N h a) : argV fresh h a = argV fresh h' a := by
  cases a with
  | own n sg => simp only [argV, H n ha.own]
  | ptr n row fld =>
    simp only [argV, ← H n ha.ptr]
    split
    · rename_i cells hs; rw [cellsVV_ag H (ha.box hs)]
    · rfl
  | _ => rfl
theorem argsV_ag (H : Ag N h h') {fresh : Bool} : ∀ {as : List TA}, InL N h as → argsV fresh h as = argsV fresh h' as
  | [], _ => rfl
  | a :: as, ha => by
    have h2 : InL N h as := fun x hx => ha x (by simp [hx])
    simp only [argsV, argV_ag H (ha a (by simp)), argsV_ag H h2]
theorem ioV_ag : ∀ {as : List TA}, ioV h as = ioV h' as
  | [] => rfl
  | a :: as => by cases a <;> simp only [ioV] <;> rw [ioV_ag]
theorem okAs_ag {fresh : Bool} : ∀ {as : List TA} {h h' : VH}, Ag N h h' → InL N h as → okAs fresh h as = okAs fresh h' as
  | [], _, _, _, _ => rfl
  | a :: as, h, h', H, ha => by
    have ha0 := ha a (by simp)
    simp only [okAs, solid_ag H ha0.nm, ← frzA_ag H ha0]
    rw [okAs_ag H.hup fun x hx => (ha x (by simp [hx])).same sameB_frzA]
    cases fresh with
    | true =>
      show (_ && solidB h a && _) = (_ && solidB h' a && _)
      rw [solidB_ag H ha0]
    | false =>
      show (_ && solidB (hup h (frz1 h a)) a && _) = (_ && solidB (hup h' (frz1 h' a)) a && _)
      rw [← frz1_ag H ha0.nm, solidB_ag (H.hup (us := frz1 h a)) (ha0.same sameB_frz1)]
theorem vcall_ag {en : VEn} {b : Nat} {f : FuncId} {as : List TA} (H : Ag N h h') (ha : InL N h as) : vcall en b h f as = vcall en b h' f as := by
  funext K
  simp only [vcall]
  rw [← frzAs_ag H ha, argsV_ag (H.hup (us := frzAs (en.fr f) h as)) (fun x hx => (ha x hx).same sameB_frzAs), solidL_ag H ha.nm, okAs_ag H ha, ioV_ag (h := h) (h' := h')]
theorem srcV_ag (H : Ag N h h') {r : Ty} {a : TA} (ha : Nm N [a]) : srcV h r a = srcV h' r a := by
  cases a with
  | own n sg => funext K; simp only [srcV, H n ha.own]
  | v T x => cases T <;> rfl
  | _ => rfl
theorem vlen_ag {ty : TypeId → Option Ty} (H : Ag N h h') {tt : TypeId} {a : TA} (ha : Nm N [a]) : vlen ty h tt a = vlen ty h' tt a := by
  cases a with
  | own n sg => funext K; simp only [vlen, H n ha.own]
  | v T x => cases T <;> rfl
  | _ => rfl
theorem vappend_ag {ty : TypeId → Option Ty} {b : Nat} (H : Ag N h h') {tt tx : TypeId} {s x : TA} (hs : Nm N [s]) (hx : Nm N [x]) : vappend ty b h tt tx s x = vappend ty b h' tt tx s x := by
  funext K
  unfold vappend
  split
  · rw [srcV_ag H hx]
    cases s with
    | own n sg => simp only [H n hs.own]
    | _ => rfl
  · rfl
theorem vcopy_ag {ty : TypeId → Option Ty} (H : Ag N h h') {tt tx : TypeId} {s x : TA} (hs : Nm N [s]) (hx : Nm N [x]) : vcopy ty h tt tx s x = vcopy ty h' tt tx s x := by
  funext K
  cases s with
  | own n sg =>
    simp only [vcopy, ← H n hs.own]
    split
    · rw [srcV_ag H hx]
    · rfl
  | _ => rfl
theorem vload_ag {ty : TypeId → Option Ty} {oth : TypeId → Bool} (H : Ag N h h') {tt : TypeId} {a : TA} (ha : In N h a) : vload ty oth h tt a = vload ty oth h' tt a := by
  funext K
  cases a with
  | ptr n row fld =>
    simp only [vload, ← H n ha.ptr]
    split
    · rename_i cells hs
      have hc := ha.box hs
      split
      · rw [solidL_ag H hc, ← frzL_ag H hc, packT_ag (H.hup (us := frzL h cells)) _ (hc.drop fld)]
      · rfl
      · rfl
    · rfl
    · rfl
  | _ => rfl
theorem storeA_ag {tT : Option Ty} (H : Ag N h h') {n : Nat} {row : Int} {fld : Nat} {a : TA} (ha : Nm N [a]) (K : Ups → Prop) (s : Slot) : storeA tT h n row fld a K s = storeA tT h' n row fld a K s := by
  unfold storeA
  split
  · split
    · rw [solid_ag H ha, ← frz1_ag H ha, setRow_ag (H.hup (us := frz1 h a)) ha]
    · rfl
  · rfl
theorem vstore_ag {ty : TypeId → Option Ty} {oth : TypeId → Bool} (H : Ag N h h') {tt : TypeId} {ad a : TA} (hd : In N h ad) (ha : Nm N [a]) : vstore ty oth h tt ad a = vstore ty oth h' tt ad a := by
  funext K
  cases ad with
  | ptr n row fld =>
    simp only [vstore, ← H n hd.ptr, boxTAs_ag H ha, storeA_ag H ha]
    rw [← frz1_ag H ha, (H.hup (us := frz1 h a)) n hd.ptr]
  | _ => rfl
theorem vconv_ag {ty : TypeId → Option Ty} (H : Ag N h h') {src dst : TypeId} {a : TA} (ha : Nm N [a]) : vconv ty h src dst a = vconv ty h' src dst a := by
  cases a with
  | own n sg => funext K; simp only [vconv, H n ha.own]
  | v T x => cases T <;> rfl
  | _ => rfl
theorem vslice_agH {ty : TypeId → Option Ty} (H : Ag N h h') {t : VT} {tt : TypeId} {a : TA} {lo hi : Option Operand} (ha : Nm N [a]) : vslice ty h t tt a lo hi = vslice ty h' t tt a lo hi := by
  cases a with
  | own n sg => funext K; simp only [vslice, H n ha.own]
  | v T x => cases T <;> rfl
  | _ => rfl
theorem vindexAddr_ag {ty : TypeId → Option Ty} (H : Ag N h h') {tt : TypeId} {a i : TA} (ha : Nm N [a]) : vindexAddr ty h tt a i = vindexAddr ty h' tt a i := by
  cases a with
  | own n sg => funext K; simp only [vindexAddr, H n ha.own]
  | v T x => cases i with
    | v T' y => cases T' <;> cases T <;> rfl
    | _ => rfl
  | _ => rfl
theorem vbuild_ag {ty : TypeId → Option Ty} (H : Ag N h h') {tt : TypeId} {ps : List (Nat × TA)} (hp : Nm N (partTAs ps)) : vbuild ty h tt ps = vbuild ty h' tt ps := by
  funext K
  unfold vbuild
  split
  · rw [solidS_ag H hp, ← frzL_ag H hp, fillV_ag (H.hup (us := frzL h (partTAs ps))) hp]
  · rfl
theorem vbuildSlice_ag {ty : TypeId → Option Ty} {b : Nat} (H : Ag N h h') {tt : TypeId} {len : Nat} {ps : List (Nat × TA)} (hp : Nm N (partTAs ps)) : vbuildSlice ty b h tt len ps = vbuildSlice ty b h' tt len ps := by
  funext K
  unfold vbuildSlice
  split
  · rw [solidS_ag H hp, ← frzL_ag H hp, rowsV_ag (H.hup (us := frzL h (partTAs ps))) hp]
  · rfl
theorem vext_ag (H : Ag N h h') {a : TA} (ha : Nm N [a]) (K : TA → Prop) : vext h K a = vext h' K a := by
  cases a with
  | own n sg => simp only [vext, frozen, H n ha.own]
  | _ => rfl

/-- objects that are there stay there -/
def AgL (N : List Nat) (h h' : VH) : Prop := ∀ n ∈ N, live (hget h n) = true → live (hget h' n) = true
theorem fpL_mem {t : VT} : ∀ {xs : List Operand} {x : Operand}, x ∈ xs → ∀ n ∈ fpA h (vo t x), n ∈ fpL h t xs
  | y :: ys, x, hx, n, hn => by
    simp only [fpL, List.mem_append]
    rcases List.mem_cons.mp hx with rfl | hx
    · exact .inl hn
    · exact .inr (fpL_mem hx n hn)
theorem voT_in {ty : TypeId → Option Ty} {tt : TypeId} {t : VT} {x : Operand} (hx : In N h (vo t x)) : In N h (voT ty tt t x) := by
  unfold voT
  split
  · generalize ty tt = T
    intro n hn
    unfold nilTy at hn
    split at hn <;> simp [fpA] at hn
  · exact hx
theorem voTs_in {ty : TypeId → Option Ty} {t : VT} : ∀ {ts : List TypeId} {xs : List Operand}, (∀ x ∈ xs, In N h (vo t x)) → InL N h (voTs ty t ts xs)
  | [], _, _ => by simp [voTs, InL]
  | _ :: _, [], _ => by simp [voTs, InL]
  | s :: ts, x :: xs, hh => by
    intro a ha
    simp only [voTs, List.zip_cons_cons, List.map_cons, List.mem_cons] at ha
    rcases ha with rfl | ha
    · exact voT_in (hh x (by simp))
    · exact voTs_in (ty := ty) (ts := ts) (xs := xs) (fun y hy => hh y (by simp [hy])) a ha
theorem vparts_nm {t : VT} : ∀ {ps : List (Nat × Operand)}, (∀ x ∈ ps.map (·.2), In N h (vo t x)) → Nm N (partTAs (vparts t ps))
  | [], _ => by simp [vparts, partTAs, Nm, namesL]
  | p :: ps, hh => by
    have h1 := vparts_nm (ps := ps) fun x hx => hh x (by simp at hx ⊢; exact .inr hx)
    have h2 := (hh p.2 (by simp)).nm
    simp only [vparts, partTAs, List.map_cons] at h1 ⊢
    generalize vo t p.2 = a at h2
    cases a <;> simp [Nm, namesL] at h1 h2 ⊢ <;> first | exact h1 | exact ⟨h2, h1⟩
theorem vnil_ag {a : TA} (H : AgL (namesL [a]) h h') {K : TA → Prop} (hk : vnil h a K) : vnil h' a K := by
  cases a with
  | ptr n r f =>
    obtain ⟨h1, h2⟩ := chk_iff.mp hk
    exact chk_iff.mpr ⟨H n (by simp [namesL]) h1, h2⟩
  | _ => exact hk
theorem vfieldAddr_ag {ty : TypeId → Option Ty} {s : TypeId} {f : Nat} {a : TA} (H : AgL (namesL [a]) h h') {K : TA → Prop} (hk : vfieldAddr ty h s a f K) : vfieldAddr ty h' s a f K := by
  unfold vfieldAddr at hk ⊢
  split at hk
  · obtain ⟨hc, hk⟩ := chk_iff.mp hk
    refine chk_iff.mpr ⟨hc, ?_⟩
    cases a with
    | ptr n r f =>
      obtain ⟨h1, h2⟩ := chk_iff.mp hk
      exact chk_iff.mpr ⟨H n (by simp [namesL]) h1, h2⟩
    | _ => exact hk
  · exact hk.elim

theorem vop_agH {en : VEn} {b : Nat} {t : VT} {o : Oper} {K : TV → Ups → Prop} (hF : Ag (fpO h t o) h h') (hL : AgL (lvO t o) h h') (hk : vop en b h t o K) : vop en b h' t o K := by
  obtain ⟨dst, op, ty, sp, after, guard⟩ := o
  cases op with
  | move x => exact hk
  | assign x => exact hk
  | pick c x y => exact hk
  | alloc e => exact hk
  | box e x =>
    have hi : In (fpL h t [x]) h (vo t x) := fpL_mem (by simp)
    simp only [vop] at hk ⊢
    rw [← boxTAs_ag (N := fpL h t [x]) hF (voT_in hi).nm]
    exact hk
  | build tt ps =>
    have hi : ∀ x ∈ ps.toList.map (·.2), In (fpO h t ⟨dst, .build tt ps, ty, sp, after, guard⟩) h (vo t x) := fun x hx => fpL_mem (by simpa [Op.operands] using hx)
    simp only [vop] at hk ⊢
    rw [← vbuild_ag hF (vparts_nm hi)]
    exact hk
  | buildSlice tt len ps =>
    have hi : ∀ x ∈ ps.toList.map (·.2), In (fpO h t ⟨dst, .buildSlice tt len ps, ty, sp, after, guard⟩) h (vo t x) := fun x hx => fpL_mem (by simpa [Op.operands] using hx)
    simp only [vop] at hk ⊢
    rw [← vbuildSlice_ag hF (vparts_nm hi)]
    exact hk
  | load tt x =>
    have hi : In (fpL h t [x]) h (vo t x) := fpL_mem (by simp)
    simp only [vop] at hk ⊢
    rw [← vload_ag (N := fpL h t [x]) hF hi]
    exact hk
  | store tt x v =>
    have hi : In (fpL h t [x, v]) h (vo t x) := fpL_mem (by simp)
    have hj : In (fpL h t [x, v]) h (vo t v) := fpL_mem (by simp)
    simp only [vop] at hk ⊢
    rw [← vstore_ag (N := fpL h t [x, v]) hF hi (voT_in hj).nm]
    exact hk
  | nilCheck x => simp only [vop] at hk ⊢; exact vnil_ag hL hk
  | binOp op tt x y _ => exact hk
  | unOp op _ x => exact hk
  | convert src dst x =>
    have hi : In (fpL h t [x]) h (vo t x) := fpL_mem (by simp)
    simp only [vop] at hk ⊢
    rw [← vconv_ag (N := fpL h t [x]) hF hi.nm]
    exact hk
  | makeSlice tt l c => exact hk
  | slice tt x lo hi m =>
    cases m with
    | none =>
      have hi : In (fpO h t ⟨dst, .slice tt x lo hi none, ty, sp, after, guard⟩) h (vo t x) := fpL_mem (by simp [Op.operands])
      simp only [vop] at hk ⊢
      rw [← vslice_agH hF hi.nm]
      exact hk
    | some m => exact hk
  | fieldAddr s x f => simp only [vop] at hk ⊢; exact vfieldAddr_ag hL hk
  | field s x f => exact hk
  | indexAddr tt x i =>
    have hi : In (fpL h t [x, i]) h (vo t x) := fpL_mem (by simp)
    simp only [vop] at hk ⊢
    rw [← vindexAddr_ag (N := fpL h t [x, i]) hF hi.nm]
    exact hk
  | index tt x i => exact hk
  | extract x i =>
    simp only [fpO] at hF
    simp only [vop] at hk ⊢
    cases hv : vopTup t i x with
    | none => rw [hv] at hk; exact hk
    | some a =>
      rw [hv] at hk hF
      have hi : In (fpA h a) h a := fun n hn => hn
      show vext h' (fun a => K (.a a) []) a
      rw [← vext_ag hF hi.nm]
      exact hk
  | call c =>
    obtain ⟨callee, args, ats⟩ := c
    cases callee with
    | builtin f =>
      have hi : ∀ x ∈ args.toList, In (fpO h t ⟨dst, .call ⟨.builtin f, args, ats⟩, ty, sp, after, guard⟩) h (vo t x) := fun x hx => fpL_mem (by simp [Op.operands, Call.operands]; simpa using hx)
      generalize fpO h t ⟨dst, .call ⟨.builtin f, args, ats⟩, ty, sp, after, guard⟩ = N at hF hi
      simp only [vop] at hk ⊢
      generalize args.toList = xs at hi hk
      generalize ats.toList = ts at hk
      unfold vbuiltin at hk ⊢
      split at hk
      · rw [← vlen_ag hF (voT_in (hi _ (by simp))).nm]; exact hk
      · rw [← vappend_ag hF (voT_in (hi _ (by simp))).nm (voT_in (hi _ (by simp))).nm]; exact hk
      · rw [← vcopy_ag hF (voT_in (hi _ (by simp))).nm (voT_in (hi _ (by simp))).nm]; exact hk
      · exact hk
      · exact hk.elim
    | value f =>
      have hi : ∀ x ∈ args.toList, In (fpO h t ⟨dst, .call ⟨.value f, args, ats⟩, ty, sp, after, guard⟩) h (vo t x) := fun x hx => fpL_mem (by simp [Op.operands, Call.operands]; simp at hx; simp [hx])
      simp only [vop] at hk ⊢
      unfold vcallee at hk ⊢
      split at hk
      · rw [← vcall_ag hF (voTs_in hi)]; exact hk
      · exact hk.elim
    | _ => exact hk
  | _ => exact hk
end Go.RX

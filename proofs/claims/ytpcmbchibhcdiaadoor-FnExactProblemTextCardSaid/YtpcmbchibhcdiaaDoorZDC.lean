/- Each function of the program is as it is said: evaluated by the kernel. By a program of this session. -/
import Derived.Test.YtpcmbchibhcdiaaDoorZDM
import Derived.Test.YtpcmbchibhcdiaaDoorEnvTryd
namespace Go.RX.Tryd
open Go Go.Proofs Go.RX
set_option maxRecDepth 1000000
set_option maxHeartbeats 4000000
def T0 : List (Nat × CE) := []
theorem vokT0 (W0 : World) : VOk (ven T0) (ren W0) := vok0 W0
def internal_strconv_small.e : CE := fun avs K => match avs with
  | [.v (.int .i64) a0] => internal_strconv_small.c a0 fun r0 => K [.v .str r0] []
  | _ => False
theorem internal_strconv_small.eq (a0 : Int) (Q : ByteArray → Prop) : vwp (ven T0) Tryd.f19.ntmps (bodyOf Tryd.f19) .o (vfin (ven T0).ty true Tryd.f19.results.toList [false] [] [] (fun rs ios => match rs, ios with | [.v .str r0], [] => Q r0 | _, _ => False)) (vinit [.v (.int .i64) a0]) = internal_strconv_small.m a0 Q := by kernel_rfl
theorem internal_strconv_small.ent (W0 : World) (H : VOk (ven T0) (ren W0)) : EntOk (ren W0).P (ren W0).W0 19 true internal_strconv_small.e := by
  intro avs K hc
  unfold internal_strconv_small.e at hc
  split at hc
  case h_2 => exact hc.elim
  rename_i a0
  obtain ⟨hp, hk⟩ := hc
  refine ⟨_, _, hk, fun K' hk' => ⟨hp, hk'⟩, Nat.le_of_ble_eq_true rfl, rfl, by simp [Ty.ok, Ty.atom], ?_⟩
  have hl := internal_strconv_small.law (a0 := a0) (Q := Eq1 _) ⟨hp, rfl⟩
  rw [← internal_strconv_small.eq] at hl
  have h1 : ([.v (.int .i64) a0] : List VA).all VA.ok = true := rfl
  have h2 : ([.v (.int .i64) a0] : List VA).length ≤ Tryd.f19.ntmps := Nat.le_of_ble_eq_true rfl
  have h3 : ioVA 0 [.v (.int .i64) a0] = [] := rfl
  have h4 : ([] : List Nat).all (fun n => Nat.blt n 4) = true := rfl
  have h5 : ioLen [.v (.int .i64) a0] = [] := rfl
  have h6 : (ren W0).P.funcs[19]? = some Tryd.f19 := Tryd.func19
  have h7 : Tryd.f19.body = some (bodyOf Tryd.f19) := by kernel_rfl
  have h8 : (Tryd.f19.name == "runtime.NumGoroutine") = false := by kernel_rfl
  have h9 : (ren W0).fr 19 = true := rfl
  refine conOf (ren := ren W0) ti_ok mixed H (fn := Tryd.f19) (body := bodyOf Tryd.f19) (an := .o) h6 h7 h8 h9 h1 h2 h3 h4 h5 hl ?_
  intro r i h
  split at h
  · cases h; exact ⟨rfl, rfl⟩
  · exact h.elim
def T1 : List (Nat × CE) := (19, internal_strconv_small.e) :: T0
theorem vokT1 (W0 : World) : VOk (ven T1) (ren W0) := (vokT0 W0).step (l := T0) (c := internal_strconv_small.e) (g := 19) (fresh := true) rfl (internal_strconv_small.ent W0 (vokT0 W0))
def internal_strconv_FormatInt.e : CE := fun avs K => match avs with
  | [.v (.int .i64) a0, .v (.int .i64) a1] => internal_strconv_FormatInt.c a0 a1 fun r0 => K [.v .str r0] []
  | _ => False
theorem internal_strconv_FormatInt.eq (a0 : Int) (a1 : Int) (Q : ByteArray → Prop) : vwp (ven T1) Tryd.f18.ntmps (bodyOf Tryd.f18) .o (vfin (ven T1).ty true Tryd.f18.results.toList [false] [] [] (fun rs ios => match rs, ios with | [.v .str r0], [] => Q r0 | _, _ => False)) (vinit [.v (.int .i64) a0, .v (.int .i64) a1]) = internal_strconv_FormatInt.m a0 a1 Q := by kernel_rfl
theorem internal_strconv_FormatInt.ent (W0 : World) (H : VOk (ven T1) (ren W0)) : EntOk (ren W0).P (ren W0).W0 18 true internal_strconv_FormatInt.e := by
  intro avs K hc
  unfold internal_strconv_FormatInt.e at hc
  split at hc
  case h_2 => exact hc.elim
  rename_i a0 a1
  obtain ⟨hp, hk⟩ := hc
  refine ⟨_, _, hk, fun K' hk' => ⟨hp, hk'⟩, Nat.le_of_ble_eq_true rfl, rfl, by simp [Ty.ok, Ty.atom], ?_⟩
  have hl := internal_strconv_FormatInt.law (a0 := a0) (a1 := a1) (Q := Eq1 _) ⟨hp, rfl⟩
  rw [← internal_strconv_FormatInt.eq] at hl
  have h1 : ([.v (.int .i64) a0, .v (.int .i64) a1] : List VA).all VA.ok = true := rfl
  have h2 : ([.v (.int .i64) a0, .v (.int .i64) a1] : List VA).length ≤ Tryd.f18.ntmps := Nat.le_of_ble_eq_true rfl
  have h3 : ioVA 0 [.v (.int .i64) a0, .v (.int .i64) a1] = [] := rfl
  have h4 : ([] : List Nat).all (fun n => Nat.blt n 4) = true := rfl
  have h5 : ioLen [.v (.int .i64) a0, .v (.int .i64) a1] = [] := rfl
  have h6 : (ren W0).P.funcs[18]? = some Tryd.f18 := Tryd.func18
  have h7 : Tryd.f18.body = some (bodyOf Tryd.f18) := by kernel_rfl
  have h8 : (Tryd.f18.name == "runtime.NumGoroutine") = false := by kernel_rfl
  have h9 : (ren W0).fr 18 = true := rfl
  refine conOf (ren := ren W0) ti_ok mixed H (fn := Tryd.f18) (body := bodyOf Tryd.f18) (an := .o) h6 h7 h8 h9 h1 h2 h3 h4 h5 hl ?_
  intro r i h
  split at h
  · cases h; exact ⟨rfl, rfl⟩
  · exact h.elim
def T2 : List (Nat × CE) := (18, internal_strconv_FormatInt.e) :: T1
theorem vokT2 (W0 : World) : VOk (ven T2) (ren W0) := (vokT1 W0).step (l := T1) (c := internal_strconv_FormatInt.e) (g := 18) (fresh := true) rfl (internal_strconv_FormatInt.ent W0 (vokT1 W0))
def internal_strconv_Itoa.e : CE := fun avs K => match avs with
  | [.v (.int .i64) a0] => internal_strconv_Itoa.c a0 fun r0 => K [.v .str r0] []
  | _ => False
theorem internal_strconv_Itoa.eq (a0 : Int) (Q : ByteArray → Prop) : vwp (ven T2) Tryd.f17.ntmps (bodyOf Tryd.f17) .o (vfin (ven T2).ty true Tryd.f17.results.toList [false] [] [] (fun rs ios => match rs, ios with | [.v .str r0], [] => Q r0 | _, _ => False)) (vinit [.v (.int .i64) a0]) = internal_strconv_Itoa.m a0 Q := by kernel_rfl
theorem internal_strconv_Itoa.ent (W0 : World) (H : VOk (ven T2) (ren W0)) : EntOk (ren W0).P (ren W0).W0 17 true internal_strconv_Itoa.e := by
  intro avs K hc
  unfold internal_strconv_Itoa.e at hc
  split at hc
  case h_2 => exact hc.elim
  rename_i a0
  obtain ⟨hp, hk⟩ := hc
  refine ⟨_, _, hk, fun K' hk' => ⟨hp, hk'⟩, Nat.le_of_ble_eq_true rfl, rfl, by simp [Ty.ok, Ty.atom], ?_⟩
  have hl := internal_strconv_Itoa.law (a0 := a0) (Q := Eq1 _) ⟨hp, rfl⟩
  rw [← internal_strconv_Itoa.eq] at hl
  have h1 : ([.v (.int .i64) a0] : List VA).all VA.ok = true := rfl
  have h2 : ([.v (.int .i64) a0] : List VA).length ≤ Tryd.f17.ntmps := Nat.le_of_ble_eq_true rfl
  have h3 : ioVA 0 [.v (.int .i64) a0] = [] := rfl
  have h4 : ([] : List Nat).all (fun n => Nat.blt n 4) = true := rfl
  have h5 : ioLen [.v (.int .i64) a0] = [] := rfl
  have h6 : (ren W0).P.funcs[17]? = some Tryd.f17 := Tryd.func17
  have h7 : Tryd.f17.body = some (bodyOf Tryd.f17) := by kernel_rfl
  have h8 : (Tryd.f17.name == "runtime.NumGoroutine") = false := by kernel_rfl
  have h9 : (ren W0).fr 17 = true := rfl
  refine conOf (ren := ren W0) ti_ok mixed H (fn := Tryd.f17) (body := bodyOf Tryd.f17) (an := .o) h6 h7 h8 h9 h1 h2 h3 h4 h5 hl ?_
  intro r i h
  split at h
  · cases h; exact ⟨rfl, rfl⟩
  · exact h.elim
def T3 : List (Nat × CE) := (17, internal_strconv_Itoa.e) :: T2
theorem vokT3 (W0 : World) : VOk (ven T3) (ren W0) := (vokT2 W0).step (l := T2) (c := internal_strconv_Itoa.e) (g := 17) (fresh := true) rfl (internal_strconv_Itoa.ent W0 (vokT2 W0))
def strconv_Itoa.e : CE := fun avs K => match avs with
  | [.v (.int .i64) a0] => strconv_Itoa.c a0 fun r0 => K [.v .str r0] []
  | _ => False
theorem strconv_Itoa.eq (a0 : Int) (Q : ByteArray → Prop) : vwp (ven T3) Tryd.f13.ntmps (bodyOf Tryd.f13) .o (vfin (ven T3).ty true Tryd.f13.results.toList [false] [] [] (fun rs ios => match rs, ios with | [.v .str r0], [] => Q r0 | _, _ => False)) (vinit [.v (.int .i64) a0]) = strconv_Itoa.m a0 Q := by kernel_rfl
theorem strconv_Itoa.ent (W0 : World) (H : VOk (ven T3) (ren W0)) : EntOk (ren W0).P (ren W0).W0 13 true strconv_Itoa.e := by
  intro avs K hc
  unfold strconv_Itoa.e at hc
  split at hc
  case h_2 => exact hc.elim
  rename_i a0
  obtain ⟨hp, hk⟩ := hc
  refine ⟨_, _, hk, fun K' hk' => ⟨hp, hk'⟩, Nat.le_of_ble_eq_true rfl, rfl, by simp [Ty.ok, Ty.atom], ?_⟩
  have hl := strconv_Itoa.law (a0 := a0) (Q := Eq1 _) ⟨hp, rfl⟩
  rw [← strconv_Itoa.eq] at hl
  have h1 : ([.v (.int .i64) a0] : List VA).all VA.ok = true := rfl
  have h2 : ([.v (.int .i64) a0] : List VA).length ≤ Tryd.f13.ntmps := Nat.le_of_ble_eq_true rfl
  have h3 : ioVA 0 [.v (.int .i64) a0] = [] := rfl
  have h4 : ([] : List Nat).all (fun n => Nat.blt n 4) = true := rfl
  have h5 : ioLen [.v (.int .i64) a0] = [] := rfl
  have h6 : (ren W0).P.funcs[13]? = some Tryd.f13 := Tryd.func13
  have h7 : Tryd.f13.body = some (bodyOf Tryd.f13) := by kernel_rfl
  have h8 : (Tryd.f13.name == "runtime.NumGoroutine") = false := by kernel_rfl
  have h9 : (ren W0).fr 13 = true := rfl
  refine conOf (ren := ren W0) ti_ok mixed H (fn := Tryd.f13) (body := bodyOf Tryd.f13) (an := .o) h6 h7 h8 h9 h1 h2 h3 h4 h5 hl ?_
  intro r i h
  split at h
  · cases h; exact ⟨rfl, rfl⟩
  · exact h.elim
def T4 : List (Nat × CE) := (13, strconv_Itoa.e) :: T3
theorem vokT4 (W0 : World) : VOk (ven T4) (ren W0) := (vokT3 W0).step (l := T3) (c := strconv_Itoa.e) (g := 13) (fresh := true) rfl (strconv_Itoa.ent W0 (vokT3 W0))
def impl_in.e : CE := fun avs K => match avs with
  | [.v (.int .i64) a0, .v (.int .i64) a1, .v (.int .i64) a2] => impl_in.c a0 a1 a2 fun r0 => K [.v .bool r0] []
  | _ => False
theorem impl_in.eq (a0 : Int) (a1 : Int) (a2 : Int) (Q : Bool → Prop) : vwp (ven T4) Tryd.f12.ntmps (bodyOf Tryd.f12) .o (vfin (ven T4).ty true Tryd.f12.results.toList [false] [] [] (fun rs ios => match rs, ios with | [.v .bool r0], [] => Q r0 | _, _ => False)) (vinit [.v (.int .i64) a0, .v (.int .i64) a1, .v (.int .i64) a2]) = impl_in.m a0 a1 a2 Q := by kernel_rfl
theorem impl_in.ent (W0 : World) (H : VOk (ven T4) (ren W0)) : EntOk (ren W0).P (ren W0).W0 12 true impl_in.e := by
  intro avs K hc
  unfold impl_in.e at hc
  split at hc
  case h_2 => exact hc.elim
  rename_i a0 a1 a2
  obtain ⟨hp, hk⟩ := hc
  refine ⟨_, _, hk, fun K' hk' => ⟨hp, hk'⟩, Nat.le_of_ble_eq_true rfl, rfl, by simp [Ty.ok, Ty.atom], ?_⟩
  have hl := impl_in.law (a0 := a0) (a1 := a1) (a2 := a2) (Q := Eq1 _) ⟨hp, rfl⟩
  rw [← impl_in.eq] at hl
  have h1 : ([.v (.int .i64) a0, .v (.int .i64) a1, .v (.int .i64) a2] : List VA).all VA.ok = true := rfl
  have h2 : ([.v (.int .i64) a0, .v (.int .i64) a1, .v (.int .i64) a2] : List VA).length ≤ Tryd.f12.ntmps := Nat.le_of_ble_eq_true rfl
  have h3 : ioVA 0 [.v (.int .i64) a0, .v (.int .i64) a1, .v (.int .i64) a2] = [] := rfl
  have h4 : ([] : List Nat).all (fun n => Nat.blt n 4) = true := rfl
  have h5 : ioLen [.v (.int .i64) a0, .v (.int .i64) a1, .v (.int .i64) a2] = [] := rfl
  have h6 : (ren W0).P.funcs[12]? = some Tryd.f12 := Tryd.func12
  have h7 : Tryd.f12.body = some (bodyOf Tryd.f12) := by kernel_rfl
  have h8 : (Tryd.f12.name == "runtime.NumGoroutine") = false := by kernel_rfl
  have h9 : (ren W0).fr 12 = true := rfl
  refine conOf (ren := ren W0) ti_ok mixed H (fn := Tryd.f12) (body := bodyOf Tryd.f12) (an := .o) h6 h7 h8 h9 h1 h2 h3 h4 h5 hl ?_
  intro r i h
  split at h
  · cases h; exact ⟨rfl, rfl⟩
  · exact h.elim
def T5 : List (Nat × CE) := (12, impl_in.e) :: T4
theorem vokT5 (W0 : World) : VOk (ven T5) (ren W0) := (vokT4 W0).step (l := T4) (c := impl_in.e) (g := 12) (fresh := true) rfl (impl_in.ent W0 (vokT4 W0))
def spec_l1In.e : CE := fun avs K => match avs with
  | [.v (.int .i64) a0, .v (.int .i64) a1, .v (.int .i64) a2] => spec_l1In.c a0 a1 a2 fun r0 => K [.v .bool r0] []
  | _ => False
theorem spec_l1In.eq (a0 : Int) (a1 : Int) (a2 : Int) (Q : Bool → Prop) : vwp (ven T5) Tryd.f10.ntmps (bodyOf Tryd.f10) .o (vfin (ven T5).ty true Tryd.f10.results.toList [false] [] [] (fun rs ios => match rs, ios with | [.v .bool r0], [] => Q r0 | _, _ => False)) (vinit [.v (.int .i64) a0, .v (.int .i64) a1, .v (.int .i64) a2]) = spec_l1In.m a0 a1 a2 Q := by kernel_rfl
theorem spec_l1In.ent (W0 : World) (H : VOk (ven T5) (ren W0)) : EntOk (ren W0).P (ren W0).W0 10 true spec_l1In.e := by
  intro avs K hc
  unfold spec_l1In.e at hc
  split at hc
  case h_2 => exact hc.elim
  rename_i a0 a1 a2
  obtain ⟨hp, hk⟩ := hc
  refine ⟨_, _, hk, fun K' hk' => ⟨hp, hk'⟩, Nat.le_of_ble_eq_true rfl, rfl, by simp [Ty.ok, Ty.atom], ?_⟩
  have hl := spec_l1In.law (a0 := a0) (a1 := a1) (a2 := a2) (Q := Eq1 _) ⟨hp, rfl⟩
  rw [← spec_l1In.eq] at hl
  have h1 : ([.v (.int .i64) a0, .v (.int .i64) a1, .v (.int .i64) a2] : List VA).all VA.ok = true := rfl
  have h2 : ([.v (.int .i64) a0, .v (.int .i64) a1, .v (.int .i64) a2] : List VA).length ≤ Tryd.f10.ntmps := Nat.le_of_ble_eq_true rfl
  have h3 : ioVA 0 [.v (.int .i64) a0, .v (.int .i64) a1, .v (.int .i64) a2] = [] := rfl
  have h4 : ([] : List Nat).all (fun n => Nat.blt n 4) = true := rfl
  have h5 : ioLen [.v (.int .i64) a0, .v (.int .i64) a1, .v (.int .i64) a2] = [] := rfl
  have h6 : (ren W0).P.funcs[10]? = some Tryd.f10 := Tryd.func10
  have h7 : Tryd.f10.body = some (bodyOf Tryd.f10) := by kernel_rfl
  have h8 : (Tryd.f10.name == "runtime.NumGoroutine") = false := by kernel_rfl
  have h9 : (ren W0).fr 10 = true := rfl
  refine conOf (ren := ren W0) ti_ok mixed H (fn := Tryd.f10) (body := bodyOf Tryd.f10) (an := .o) h6 h7 h8 h9 h1 h2 h3 h4 h5 hl ?_
  intro r i h
  split at h
  · cases h; exact ⟨rfl, rfl⟩
  · exact h.elim
def T6 : List (Nat × CE) := (10, spec_l1In.e) :: T5
theorem vokT6 (W0 : World) : VOk (ven T6) (ren W0) := (vokT5 W0).step (l := T5) (c := spec_l1In.e) (g := 10) (fresh := true) rfl (spec_l1In.ent W0 (vokT5 W0))
def spec_l2Number.e : CE := fun avs K => match avs with
  | [.v (.int .i64) a0] => spec_l2Number.c a0 fun r0 => K [.v .str r0] []
  | _ => False
theorem spec_l2Number.eq (a0 : Int) (Q : ByteArray → Prop) : vwp (ven T6) Tryd.f11.ntmps (bodyOf Tryd.f11) (.s .o (.s .o (.s (.l spec_l2Number.L0S .o) .o))) (vfin (ven T6).ty true Tryd.f11.results.toList [false] [] [] (fun rs ios => match rs, ios with | [.v .str r0], [] => Q r0 | _, _ => False)) (vinit [.v (.int .i64) a0]) = spec_l2Number.m a0 Q := by kernel_rfl
theorem spec_l2Number.ent (W0 : World) (H : VOk (ven T6) (ren W0)) : EntOk (ren W0).P (ren W0).W0 11 true spec_l2Number.e := by
  intro avs K hc
  unfold spec_l2Number.e at hc
  split at hc
  case h_2 => exact hc.elim
  rename_i a0
  obtain ⟨hp, hk⟩ := hc
  refine ⟨_, _, hk, fun K' hk' => ⟨hp, hk'⟩, Nat.le_of_ble_eq_true rfl, rfl, by simp [Ty.ok, Ty.atom], ?_⟩
  have hl := spec_l2Number.law (a0 := a0) (Q := Eq1 _) ⟨hp, rfl⟩
  rw [← spec_l2Number.eq] at hl
  have h1 : ([.v (.int .i64) a0] : List VA).all VA.ok = true := rfl
  have h2 : ([.v (.int .i64) a0] : List VA).length ≤ Tryd.f11.ntmps := Nat.le_of_ble_eq_true rfl
  have h3 : ioVA 0 [.v (.int .i64) a0] = [] := rfl
  have h4 : ([] : List Nat).all (fun n => Nat.blt n 4) = true := rfl
  have h5 : ioLen [.v (.int .i64) a0] = [] := rfl
  have h6 : (ren W0).P.funcs[11]? = some Tryd.f11 := Tryd.func11
  have h7 : Tryd.f11.body = some (bodyOf Tryd.f11) := by kernel_rfl
  have h8 : (Tryd.f11.name == "runtime.NumGoroutine") = false := by kernel_rfl
  have h9 : (ren W0).fr 11 = true := rfl
  refine conOf (ren := ren W0) ti_ok mixed H (fn := Tryd.f11) (body := bodyOf Tryd.f11) (an := (.s .o (.s .o (.s (.l spec_l2Number.L0S .o) .o)))) h6 h7 h8 h9 h1 h2 h3 h4 h5 hl ?_
  intro r i h
  split at h
  · cases h; exact ⟨rfl, rfl⟩
  · exact h.elim
def T7 : List (Nat × CE) := (11, spec_l2Number.e) :: T6
theorem vokT7 (W0 : World) : VOk (ven T7) (ren W0) := (vokT6 W0).step (l := T6) (c := spec_l2Number.e) (g := 11) (fresh := true) rfl (spec_l2Number.ent W0 (vokT6 W0))
def spec_ProblemText.e : CE := fun avs K => match avs with
  | [.v (.cons (.int .i64) (.int .i64)) a0] => spec_ProblemText.c a0 fun r0 => K [.v .str r0] []
  | _ => False
theorem spec_ProblemText.eq (a0 : (Int × Int)) (Q : ByteArray → Prop) : vwp (ven T7) Tryd.f5.ntmps (bodyOf Tryd.f5) .o (vfin (ven T7).ty true Tryd.f5.results.toList [false] [] [] (fun rs ios => match rs, ios with | [.v .str r0], [] => Q r0 | _, _ => False)) (vinit [.v (.cons (.int .i64) (.int .i64)) a0]) = spec_ProblemText.m a0 Q := by kernel_rfl
theorem spec_ProblemText.ent (W0 : World) (H : VOk (ven T7) (ren W0)) : EntOk (ren W0).P (ren W0).W0 5 true spec_ProblemText.e := by
  intro avs K hc
  unfold spec_ProblemText.e at hc
  split at hc
  case h_2 => exact hc.elim
  rename_i a0
  obtain ⟨hp, hk⟩ := hc
  refine ⟨_, _, hk, fun K' hk' => ⟨hp, hk'⟩, Nat.le_of_ble_eq_true rfl, rfl, by simp [Ty.ok, Ty.atom], ?_⟩
  have hl := spec_ProblemText.law (a0 := a0) (Q := Eq1 _) ⟨hp, rfl⟩
  rw [← spec_ProblemText.eq] at hl
  have h1 : ([.v (.cons (.int .i64) (.int .i64)) a0] : List VA).all VA.ok = true := rfl
  have h2 : ([.v (.cons (.int .i64) (.int .i64)) a0] : List VA).length ≤ Tryd.f5.ntmps := Nat.le_of_ble_eq_true rfl
  have h3 : ioVA 0 [.v (.cons (.int .i64) (.int .i64)) a0] = [] := rfl
  have h4 : ([] : List Nat).all (fun n => Nat.blt n 4) = true := rfl
  have h5 : ioLen [.v (.cons (.int .i64) (.int .i64)) a0] = [] := rfl
  have h6 : (ren W0).P.funcs[5]? = some Tryd.f5 := Tryd.func5
  have h7 : Tryd.f5.body = some (bodyOf Tryd.f5) := by kernel_rfl
  have h8 : (Tryd.f5.name == "runtime.NumGoroutine") = false := by kernel_rfl
  have h9 : (ren W0).fr 5 = true := rfl
  refine conOf (ren := ren W0) ti_ok mixed H (fn := Tryd.f5) (body := bodyOf Tryd.f5) (an := .o) h6 h7 h8 h9 h1 h2 h3 h4 h5 hl ?_
  intro r i h
  split at h
  · cases h; exact ⟨rfl, rfl⟩
  · exact h.elim
def T8 : List (Nat × CE) := (5, spec_ProblemText.e) :: T7
theorem vokT8 (W0 : World) : VOk (ven T8) (ren W0) := (vokT7 W0).step (l := T7) (c := spec_ProblemText.e) (g := 5) (fresh := true) rfl (spec_ProblemText.ent W0 (vokT7 W0))
def laws_toProblem.e : CE := fun avs K => match avs with
  | [.v (.cons (.int .i64) (.int .i64)) a0] => laws_toProblem.c a0 fun r0 => K [.v (.cons (.int .i64) (.int .i64)) r0] []
  | _ => False
theorem laws_toProblem.eq (a0 : (Int × Int)) (Q : (Int × Int) → Prop) : vwp (ven T8) Tryd.f6.ntmps (bodyOf Tryd.f6) .o (vfin (ven T8).ty true Tryd.f6.results.toList [false] [] [] (fun rs ios => match rs, ios with | [.v (.cons (.int .i64) (.int .i64)) r0], [] => Q r0 | _, _ => False)) (vinit [.v (.cons (.int .i64) (.int .i64)) a0]) = laws_toProblem.m a0 Q := by kernel_rfl
theorem laws_toProblem.ent (W0 : World) (H : VOk (ven T8) (ren W0)) : EntOk (ren W0).P (ren W0).W0 6 true laws_toProblem.e := by
  intro avs K hc
  unfold laws_toProblem.e at hc
  split at hc
  case h_2 => exact hc.elim
  rename_i a0
  obtain ⟨hp, hk⟩ := hc
  refine ⟨_, _, hk, fun K' hk' => ⟨hp, hk'⟩, Nat.le_of_ble_eq_true rfl, rfl, by simp [Ty.ok, Ty.atom], ?_⟩
  have hl := laws_toProblem.law (a0 := a0) (Q := Eq1 _) ⟨hp, rfl⟩
  rw [← laws_toProblem.eq] at hl
  have h1 : ([.v (.cons (.int .i64) (.int .i64)) a0] : List VA).all VA.ok = true := rfl
  have h2 : ([.v (.cons (.int .i64) (.int .i64)) a0] : List VA).length ≤ Tryd.f6.ntmps := Nat.le_of_ble_eq_true rfl
  have h3 : ioVA 0 [.v (.cons (.int .i64) (.int .i64)) a0] = [] := rfl
  have h4 : ([] : List Nat).all (fun n => Nat.blt n 4) = true := rfl
  have h5 : ioLen [.v (.cons (.int .i64) (.int .i64)) a0] = [] := rfl
  have h6 : (ren W0).P.funcs[6]? = some Tryd.f6 := Tryd.func6
  have h7 : Tryd.f6.body = some (bodyOf Tryd.f6) := by kernel_rfl
  have h8 : (Tryd.f6.name == "runtime.NumGoroutine") = false := by kernel_rfl
  have h9 : (ren W0).fr 6 = true := rfl
  refine conOf (ren := ren W0) ti_ok mixed H (fn := Tryd.f6) (body := bodyOf Tryd.f6) (an := .o) h6 h7 h8 h9 h1 h2 h3 h4 h5 hl ?_
  intro r i h
  split at h
  · cases h; exact ⟨rfl, rfl⟩
  · exact h.elim
def T9 : List (Nat × CE) := (6, laws_toProblem.e) :: T8
theorem vokT9 (W0 : World) : VOk (ven T9) (ren W0) := (vokT8 W0).step (l := T8) (c := laws_toProblem.e) (g := 6) (fresh := true) rfl (laws_toProblem.ent W0 (vokT8 W0))
def impl_ProblemText.e : CE := fun avs K => match avs with
  | [.v (.cons (.int .i64) (.int .i64)) a0] => impl_ProblemText.c a0 fun r0 => K [.v .str r0] []
  | _ => False
theorem impl_ProblemText.eq (a0 : (Int × Int)) (Q : ByteArray → Prop) : vwp (ven T9) Tryd.f7.ntmps (bodyOf Tryd.f7) .o (vfin (ven T9).ty true Tryd.f7.results.toList [false] [] [] (fun rs ios => match rs, ios with | [.v .str r0], [] => Q r0 | _, _ => False)) (vinit [.v (.cons (.int .i64) (.int .i64)) a0]) = impl_ProblemText.m a0 Q := by kernel_rfl
theorem impl_ProblemText.ent (W0 : World) (H : VOk (ven T9) (ren W0)) : EntOk (ren W0).P (ren W0).W0 7 true impl_ProblemText.e := by
  intro avs K hc
  unfold impl_ProblemText.e at hc
  split at hc
  case h_2 => exact hc.elim
  rename_i a0
  obtain ⟨hp, hk⟩ := hc
  refine ⟨_, _, hk, fun K' hk' => ⟨hp, hk'⟩, Nat.le_of_ble_eq_true rfl, rfl, by simp [Ty.ok, Ty.atom], ?_⟩
  have hl := impl_ProblemText.law (a0 := a0) (Q := Eq1 _) ⟨hp, rfl⟩
  rw [← impl_ProblemText.eq] at hl
  have h1 : ([.v (.cons (.int .i64) (.int .i64)) a0] : List VA).all VA.ok = true := rfl
  have h2 : ([.v (.cons (.int .i64) (.int .i64)) a0] : List VA).length ≤ Tryd.f7.ntmps := Nat.le_of_ble_eq_true rfl
  have h3 : ioVA 0 [.v (.cons (.int .i64) (.int .i64)) a0] = [] := rfl
  have h4 : ([] : List Nat).all (fun n => Nat.blt n 4) = true := rfl
  have h5 : ioLen [.v (.cons (.int .i64) (.int .i64)) a0] = [] := rfl
  have h6 : (ren W0).P.funcs[7]? = some Tryd.f7 := Tryd.func7
  have h7 : Tryd.f7.body = some (bodyOf Tryd.f7) := by kernel_rfl
  have h8 : (Tryd.f7.name == "runtime.NumGoroutine") = false := by kernel_rfl
  have h9 : (ren W0).fr 7 = true := rfl
  refine conOf (ren := ren W0) ti_ok mixed H (fn := Tryd.f7) (body := bodyOf Tryd.f7) (an := .o) h6 h7 h8 h9 h1 h2 h3 h4 h5 hl ?_
  intro r i h
  split at h
  · cases h; exact ⟨rfl, rfl⟩
  · exact h.elim
def T10 : List (Nat × CE) := (7, impl_ProblemText.e) :: T9
theorem vokT10 (W0 : World) : VOk (ven T10) (ren W0) := (vokT9 W0).step (l := T9) (c := impl_ProblemText.e) (g := 7) (fresh := true) rfl (impl_ProblemText.ent W0 (vokT9 W0))
def laws_FnExactProblemText.e : CE := fun avs K => match avs with
  | [.v (.cons (.int .i64) (.int .i64)) a0] => laws_FnExactProblemText.c a0 fun r0 => K [.v .bool r0] []
  | _ => False
theorem laws_FnExactProblemText.eq (a0 : (Int × Int)) (Q : Bool → Prop) : vwp (ven T10) Tryd.f3.ntmps (bodyOf Tryd.f3) .o (vfin (ven T10).ty true Tryd.f3.results.toList [false] [] [] (fun rs ios => match rs, ios with | [.v .bool r0], [] => Q r0 | _, _ => False)) (vinit [.v (.cons (.int .i64) (.int .i64)) a0]) = laws_FnExactProblemText.m a0 Q := by kernel_rfl
theorem laws_FnExactProblemText.ent (W0 : World) (H : VOk (ven T10) (ren W0)) : EntOk (ren W0).P (ren W0).W0 3 true laws_FnExactProblemText.e := by
  intro avs K hc
  unfold laws_FnExactProblemText.e at hc
  split at hc
  case h_2 => exact hc.elim
  rename_i a0
  obtain ⟨hp, hk⟩ := hc
  refine ⟨_, _, hk, fun K' hk' => ⟨hp, hk'⟩, Nat.le_of_ble_eq_true rfl, rfl, by simp [Ty.ok, Ty.atom], ?_⟩
  have hl := laws_FnExactProblemText.law (a0 := a0) (Q := Eq1 _) ⟨hp, rfl⟩
  rw [← laws_FnExactProblemText.eq] at hl
  have h1 : ([.v (.cons (.int .i64) (.int .i64)) a0] : List VA).all VA.ok = true := rfl
  have h2 : ([.v (.cons (.int .i64) (.int .i64)) a0] : List VA).length ≤ Tryd.f3.ntmps := Nat.le_of_ble_eq_true rfl
  have h3 : ioVA 0 [.v (.cons (.int .i64) (.int .i64)) a0] = [] := rfl
  have h4 : ([] : List Nat).all (fun n => Nat.blt n 4) = true := rfl
  have h5 : ioLen [.v (.cons (.int .i64) (.int .i64)) a0] = [] := rfl
  have h6 : (ren W0).P.funcs[3]? = some Tryd.f3 := Tryd.func3
  have h7 : Tryd.f3.body = some (bodyOf Tryd.f3) := by kernel_rfl
  have h8 : (Tryd.f3.name == "runtime.NumGoroutine") = false := by kernel_rfl
  have h9 : (ren W0).fr 3 = true := rfl
  refine conOf (ren := ren W0) ti_ok mixed H (fn := Tryd.f3) (body := bodyOf Tryd.f3) (an := .o) h6 h7 h8 h9 h1 h2 h3 h4 h5 hl ?_
  intro r i h
  split at h
  · cases h; exact ⟨rfl, rfl⟩
  · exact h.elim
def T11 : List (Nat × CE) := (3, laws_FnExactProblemText.e) :: T10
theorem vokT11 (W0 : World) : VOk (ven T11) (ren W0) := (vokT10 W0).step (l := T10) (c := laws_FnExactProblemText.e) (g := 3) (fresh := true) rfl (laws_FnExactProblemText.ent W0 (vokT10 W0))
end Go.RX.Tryd

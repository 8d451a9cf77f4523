/- What the evaluator reads of the program. -/
import Derived.Test.YtpmpclieclcbdaaP05
import Derived.Test.YtpmpclieclcbdaaProg
import Derived.ProofKit
import Derived.Test.YtpmpclieclcbdaaQ1
import Derived.Lib.ItoaNum
set_option linter.unusedSimpArgs false
set_option linter.unusedVariables false
set_option linter.unusedSectionVars false
namespace Go.Proofs.Ytpmpclieclcbdaa
open Go Go.AE

/-- The program, as the evaluator reads it. -/
noncomputable def E0 : Env := envOf Try.prog [] noHook
theorem E0_ok : EnvOK E0 Try.prog := envOf_ok (extOK_nil _)
theorem E0_ro {Z : Go.AE.Road} : RoadRo Z E0 := fun _ _ _ _ _ _ h => by cases h
theorem E0_ron {b : Nat} : E0.ro b = none := rfl
theorem mixed : Try.prog.follows .mixedOrders = true := by kernel_rfl

noncomputable def t3 : TIn := match tiOf Try.prog 3 with
  | some i => i
  | none => ⟨.bool, 0, 0, none, #[], none⟩
theorem ti3 : E0.ti 3 = some t3 := by kernel_rfl
theorem t3_desc : t3.desc = TypeDesc.int IntKind.i64 := by kernel_rfl
theorem t3_size : t3.size = 1 := by kernel_rfl
theorem t3_zero : t3.zero = some (.int .i64 0) := by kernel_rfl
noncomputable def t4 : TIn := match tiOf Try.prog 4 with
  | some i => i
  | none => ⟨.bool, 0, 0, none, #[], none⟩
theorem ti4 : E0.ti 4 = some t4 := by kernel_rfl
theorem t4_desc : t4.desc = TypeDesc.bool := by kernel_rfl
theorem t4_size : t4.size = 1 := by kernel_rfl
theorem t4_zero : t4.zero = some (.bool false) := by kernel_rfl
noncomputable def t5 : TIn := match tiOf Try.prog 5 with
  | some i => i
  | none => ⟨.bool, 0, 0, none, #[], none⟩
theorem ti5 : E0.ti 5 = some t5 := by kernel_rfl
theorem t5_desc : t5.desc = TypeDesc.int IntKind.u8 := by kernel_rfl
theorem t5_size : t5.size = 1 := by kernel_rfl
theorem t5_zero : t5.zero = some (.int .u8 0) := by kernel_rfl
noncomputable def t9 : TIn := match tiOf Try.prog 9 with
  | some i => i
  | none => ⟨.bool, 0, 0, none, #[], none⟩
theorem ti9 : E0.ti 9 = some t9 := by kernel_rfl
theorem t9_desc : t9.desc = TypeDesc.string := by kernel_rfl
theorem t9_size : t9.size = 1 := by kernel_rfl
theorem t9_zero : t9.zero = some (.string ByteArray.empty) := by kernel_rfl
noncomputable def t22 : TIn := match tiOf Try.prog 22 with
  | some i => i
  | none => ⟨.bool, 0, 0, none, #[], none⟩
theorem ti22 : E0.ti 22 = some t22 := by kernel_rfl
theorem t22_desc : t22.desc = TypeDesc.int IntKind.u64 := by kernel_rfl
theorem t22_size : t22.size = 1 := by kernel_rfl
theorem t22_zero : t22.zero = some (.int .u64 0) := by kernel_rfl
noncomputable def t23 : TIn := match tiOf Try.prog 23 with
  | some i => i
  | none => ⟨.bool, 0, 0, none, #[], none⟩
theorem ti23 : E0.ti 23 = some t23 := by kernel_rfl
theorem t23_desc : t23.desc = TypeDesc.slice 22 := by kernel_rfl
theorem t23_size : t23.size = 1 := by kernel_rfl
theorem t23_zero : t23.zero = some (.slice none 0 0) := by kernel_rfl
noncomputable def t25 : TIn := match tiOf Try.prog 25 with
  | some i => i
  | none => ⟨.bool, 0, 0, none, #[], none⟩
theorem ti25 : E0.ti 25 = some t25 := by kernel_rfl
theorem t25_desc : t25.desc = TypeDesc.pointer 63 := by kernel_rfl
theorem t25_size : t25.size = 1 := by kernel_rfl
theorem t25_zero : t25.zero = some (.pointer none) := by kernel_rfl
noncomputable def t29 : TIn := match tiOf Try.prog 29 with
  | some i => i
  | none => ⟨.bool, 0, 0, none, #[], none⟩
theorem ti29 : E0.ti 29 = some t29 := by kernel_rfl
theorem t29_desc : t29.desc = TypeDesc.slice 5 := by kernel_rfl
theorem t29_size : t29.size = 1 := by kernel_rfl
theorem t29_zero : t29.zero = some (.slice none 0 0) := by kernel_rfl
noncomputable def t30 : TIn := match tiOf Try.prog 30 with
  | some i => i
  | none => ⟨.bool, 0, 0, none, #[], none⟩
theorem ti30 : E0.ti 30 = some t30 := by kernel_rfl
theorem t30_desc : t30.desc = TypeDesc.slice 33 := by kernel_rfl
theorem t30_size : t30.size = 1 := by kernel_rfl
theorem t30_zero : t30.zero = some (.slice none 0 0) := by kernel_rfl
noncomputable def t33 : TIn := match tiOf Try.prog 33 with
  | some i => i
  | none => ⟨.bool, 0, 0, none, #[], none⟩
theorem ti33 : E0.ti 33 = some t33 := by kernel_rfl
theorem t33_desc : t33.desc = TypeDesc.struct #[{ name := "Name", type := 9, offset := 0, embedded := false, tag := "", pkgPath := "", byteOffset := 0 }, { name := "At", type := 22, offset := 1, embedded := false, tag := "", pkgPath := "", byteOffset := 16 }] := by kernel_rfl
theorem t33_size : t33.size = 2 := by kernel_rfl
noncomputable def t37 : TIn := match tiOf Try.prog 37 with
  | some i => i
  | none => ⟨.bool, 0, 0, none, #[], none⟩
theorem ti37 : E0.ti 37 = some t37 := by kernel_rfl
theorem t37_desc : t37.desc = TypeDesc.slice 40 := by kernel_rfl
theorem t37_size : t37.size = 1 := by kernel_rfl
theorem t37_zero : t37.zero = some (.slice none 0 0) := by kernel_rfl
noncomputable def t38 : TIn := match tiOf Try.prog 38 with
  | some i => i
  | none => ⟨.bool, 0, 0, none, #[], none⟩
theorem ti38 : E0.ti 38 = some t38 := by kernel_rfl
theorem t38_desc : t38.desc = TypeDesc.array 2 22 := by kernel_rfl
theorem t38_size : t38.size = 2 := by kernel_rfl
noncomputable def t40 : TIn := match tiOf Try.prog 40 with
  | some i => i
  | none => ⟨.bool, 0, 0, none, #[], none⟩
theorem ti40 : E0.ti 40 = some t40 := by kernel_rfl
theorem t40_desc : t40.desc = TypeDesc.struct #[{ name := "Kind", type := 3, offset := 0, embedded := false, tag := "", pkgPath := "", byteOffset := 0 }, { name := "Name", type := 9, offset := 1, embedded := false, tag := "", pkgPath := "", byteOffset := 8 }, { name := "At", type := 22, offset := 2, embedded := false, tag := "", pkgPath := "", byteOffset := 24 }, { name := "By", type := 22, offset := 3, embedded := false, tag := "", pkgPath := "", byteOffset := 32 }] := by kernel_rfl
theorem t40_size : t40.size = 4 := by kernel_rfl
noncomputable def t44 : TIn := match tiOf Try.prog 44 with
  | some i => i
  | none => ⟨.bool, 0, 0, none, #[], none⟩
theorem ti44 : E0.ti 44 = some t44 := by kernel_rfl
theorem t44_desc : t44.desc = TypeDesc.pointer 47 := by kernel_rfl
theorem t44_size : t44.size = 1 := by kernel_rfl
theorem t44_zero : t44.zero = some (.pointer none) := by kernel_rfl
noncomputable def t45 : TIn := match tiOf Try.prog 45 with
  | some i => i
  | none => ⟨.bool, 0, 0, none, #[], none⟩
theorem ti45 : E0.ti 45 = some t45 := by kernel_rfl
theorem t45_desc : t45.desc = TypeDesc.slice 53 := by kernel_rfl
theorem t45_size : t45.size = 1 := by kernel_rfl
theorem t45_zero : t45.zero = some (.slice none 0 0) := by kernel_rfl
noncomputable def t47 : TIn := match tiOf Try.prog 47 with
  | some i => i
  | none => ⟨.bool, 0, 0, none, #[], none⟩
theorem ti47 : E0.ti 47 = some t47 := by kernel_rfl
theorem t47_desc : t47.desc = TypeDesc.struct #[{ name := "Now", type := 22, offset := 0, embedded := false, tag := "", pkgPath := "", byteOffset := 0 }, { name := "L", type := 45, offset := 1, embedded := false, tag := "", pkgPath := "", byteOffset := 8 }] := by kernel_rfl
theorem t47_size : t47.size = 2 := by kernel_rfl
noncomputable def t53 : TIn := match tiOf Try.prog 53 with
  | some i => i
  | none => ⟨.bool, 0, 0, none, #[], none⟩
theorem ti53 : E0.ti 53 = some t53 := by kernel_rfl
theorem t53_desc : t53.desc = TypeDesc.struct #[{ name := "Name", type := 9, offset := 0, embedded := false, tag := "", pkgPath := "", byteOffset := 0 }, { name := "At", type := 22, offset := 1, embedded := false, tag := "", pkgPath := "", byteOffset := 16 }] := by kernel_rfl
theorem t53_size : t53.size = 2 := by kernel_rfl
noncomputable def t58 : TIn := match tiOf Try.prog 58 with
  | some i => i
  | none => ⟨.bool, 0, 0, none, #[], none⟩
theorem ti58 : E0.ti 58 = some t58 := by kernel_rfl
theorem t58_desc : t58.desc = TypeDesc.map 9 22 := by kernel_rfl
theorem t58_size : t58.size = 1 := by kernel_rfl
theorem t58_zero : t58.zero = some (.map none) := by kernel_rfl
noncomputable def t59 : TIn := match tiOf Try.prog 59 with
  | some i => i
  | none => ⟨.bool, 0, 0, none, #[], none⟩
theorem ti59 : E0.ti 59 = some t59 := by kernel_rfl
theorem t59_desc : t59.desc = TypeDesc.map 9 22 := by kernel_rfl
theorem t59_size : t59.size = 1 := by kernel_rfl
theorem t59_zero : t59.zero = some (.map none) := by kernel_rfl
noncomputable def t60 : TIn := match tiOf Try.prog 60 with
  | some i => i
  | none => ⟨.bool, 0, 0, none, #[], none⟩
theorem ti60 : E0.ti 60 = some t60 := by kernel_rfl
theorem t60_desc : t60.desc = TypeDesc.array 16 59 := by kernel_rfl
theorem t60_size : t60.size = 16 := by kernel_rfl
noncomputable def t61 : TIn := match tiOf Try.prog 61 with
  | some i => i
  | none => ⟨.bool, 0, 0, none, #[], none⟩
theorem ti61 : E0.ti 61 = some t61 := by kernel_rfl
theorem t61_desc : t61.desc = TypeDesc.array 4 60 := by kernel_rfl
theorem t61_size : t61.size = 64 := by kernel_rfl
noncomputable def t63 : TIn := match tiOf Try.prog 63 with
  | some i => i
  | none => ⟨.bool, 0, 0, none, #[], none⟩
theorem ti63 : E0.ti 63 = some t63 := by kernel_rfl
theorem t63_desc : t63.desc = TypeDesc.struct #[{ name := "now", type := 22, offset := 0, embedded := false, tag := "", pkgPath := "belfry/wheel", byteOffset := 0 }, { name := "all", type := 59, offset := 1, embedded := false, tag := "", pkgPath := "belfry/wheel", byteOffset := 8 }, { name := "slots", type := 61, offset := 2, embedded := false, tag := "", pkgPath := "belfry/wheel", byteOffset := 16 }, { name := "far", type := 59, offset := 66, embedded := false, tag := "", pkgPath := "belfry/wheel", byteOffset := 528 }] := by kernel_rfl
theorem t63_size : t63.size = 67 := by kernel_rfl
theorem fn3 : E0.fn 3 = some Try.f3 := by kernel_rfl
theorem fn4 : E0.fn 4 = some Try.f4 := by kernel_rfl
theorem fn5 : E0.fn 5 = some Try.f5 := by kernel_rfl
theorem fn6 : E0.fn 6 = some Try.f6 := by kernel_rfl
theorem fn7 : E0.fn 7 = some Try.f7 := by kernel_rfl
theorem fn8 : E0.fn 8 = some Try.f8 := by kernel_rfl
theorem fn9 : E0.fn 9 = some Try.f9 := by kernel_rfl
theorem fn10 : E0.fn 10 = some Try.f10 := by kernel_rfl
theorem fn11 : E0.fn 11 = some Try.f11 := by kernel_rfl
theorem fn12 : E0.fn 12 = some Try.f12 := by kernel_rfl
theorem fn13 : E0.fn 13 = some Try.f13 := by kernel_rfl
theorem fn14 : E0.fn 14 = some Try.f14 := by kernel_rfl
theorem fn15 : E0.fn 15 = some Try.f15 := by kernel_rfl
theorem fn16 : E0.fn 16 = some Try.f16 := by kernel_rfl
theorem fn17 : E0.fn 17 = some Try.f17 := by kernel_rfl
theorem fn18 : E0.fn 18 = some Try.f18 := by kernel_rfl
theorem fn19 : E0.fn 19 = some Try.f19 := by kernel_rfl
theorem fn20 : E0.fn 20 = some Try.f20 := by kernel_rfl
theorem fn21 : E0.fn 21 = some Try.f21 := by kernel_rfl
theorem fn22 : E0.fn 22 = some Try.f22 := by kernel_rfl
theorem fn23 : E0.fn 23 = some Try.f23 := by kernel_rfl
theorem fn24 : E0.fn 24 = some Try.f24 := by kernel_rfl
theorem fn25 : E0.fn 25 = some Try.f25 := by kernel_rfl
theorem fn26 : E0.fn 26 = some Try.f26 := by kernel_rfl
theorem fn27 : E0.fn 27 = some Try.f27 := by kernel_rfl
theorem fn28 : E0.fn 28 = some Try.f28 := by kernel_rfl
theorem fn29 : E0.fn 29 = some Try.f29 := by kernel_rfl
theorem fn30 : E0.fn 30 = some Try.f30 := by kernel_rfl
theorem fn31 : E0.fn 31 = some Try.f31 := by kernel_rfl
theorem fn32 : E0.fn 32 = some Try.f32 := by kernel_rfl
theorem fn33 : E0.fn 33 = some Try.f33 := by kernel_rfl
theorem fn34 : E0.fn 34 = some Try.f34 := by kernel_rfl
theorem fn35 : E0.fn 35 = some Try.f35 := by kernel_rfl
theorem fn36 : E0.fn 36 = some Try.f36 := by kernel_rfl
theorem fn37 : E0.fn 37 = some Try.f37 := by kernel_rfl
theorem fn38 : E0.fn 38 = some Try.f38 := by kernel_rfl
theorem fn39 : E0.fn 39 = some Try.f39 := by kernel_rfl
theorem fn40 : E0.fn 40 = some Try.f40 := by kernel_rfl
theorem fn41 : E0.fn 41 = some Try.f41 := by kernel_rfl
theorem fn42 : E0.fn 42 = some Try.f42 := by kernel_rfl
theorem fn43 : E0.fn 43 = some Try.f43 := by kernel_rfl
theorem fn44 : E0.fn 44 = some Try.f44 := by kernel_rfl
theorem fn45 : E0.fn 45 = some Try.f45 := by kernel_rfl
theorem fn46 : E0.fn 46 = some Try.f46 := by kernel_rfl
theorem fn47 : E0.fn 47 = some Try.f47 := by kernel_rfl
theorem fn48 : E0.fn 48 = some Try.f48 := by kernel_rfl
theorem fn49 : E0.fn 49 = some Try.f49 := by kernel_rfl
end Go.Proofs.Ytpmpclieclcbdaa

/- The wheel's place, put, drop. -/
namespace Go.Proofs.Ytpmpclieclcbdaa
open Go Go.AE

/-- A wheel's cells: its clock, the map of all, the 64 slots and those that are far. -/
def wrow (now all : Nat) (ms : List Nat) : List Value := .int .u64 (now : Int) :: .map (some all) :: ms.map (fun i => Value.map (some i))

/-- Where a deadline stands: a slot's number, or 64. -/
noncomputable def lvl (now at_ : Nat) : Nat := (Lib.bitLen (at_ ^^^ now) - 1) / 4
noncomputable def plc (now at_ : Nat) : Nat := if 4 ≤ lvl now at_ then 64 else 16 * lvl now at_ + at_ / 2 ^ (4 * lvl now at_) % 16

theorem wrow_slot {now all : Nat} {ms : List Nat} {k : Nat} (h : k < ms.length) : nth (wrow now all ms) (2 + k) = some (.map (some ms[k])) := by
  rw [nth_eq]; simp [wrow, h, Nat.add_comm 2 k]

theorem wrow_now {now all : Nat} {ms : List Nat} : nth (wrow now all ms) 0 = some (.int .u64 (now : Int)) := rfl
theorem wrow_all {now all : Nat} {ms : List Nat} : nth (wrow now all ms) 1 = some (.map (some all)) := rfl

theorem eqnil25 {xo yo : Operand} {x : Option Addr} : aBin2 E0 .eql 25 xo yo (.pointer x) (.pointer none) = some (.bool x.isNone) := b_ptr_nil ti25 t25_desc

theorem plc_lt {now a : Nat} : plc now a < 65 := by
  unfold plc
  split
  · omega
  · have : a / 2 ^ (4 * lvl now a) % 16 < 16 := Nat.mod_lt _ (by omega)
    omega

theorem lvl_int {b : Nat} (h : b ≤ 64) : IntKind.i64.wrap ((IntKind.i64.wrap ((b : Int) - 1)).tdiv 4) = (((b - 1) / 4 : Nat) : Int) := by
  have : ∀ b : Fin 65, IntKind.i64.wrap ((IntKind.i64.wrap (((b.1 : Nat) : Int) - 1)).tdiv 4) = (((b.1 - 1) / 4 : Nat) : Int) := by decide +kernel
  exact this ⟨b, by omega⟩

variable {Z : Go.AE.Road}
set_option maxRecDepth 10000

theorem len64 (x : Nat) (hx : x < 18446744073709551616) (A : ASt) : CallT Z Try.prog (.fn 27) [.int .u64 (x : Int)] A (fun v A' => v = .int .i64 ((Lib.bitLen x : Nat) : Int) ∧ A' = A) :=
  CallW.of_flat rfl rfl fun w => by
    have := Try.bits_Len64 (x : Int) w (by omega) (by omega)
    simpa using this

theorem place_walk {A : ASt} {W now all a : Nat} {ms : List Nat} (hW : A.get W = some (.row (wrow now all ms) 67 false)) (hm : ms.length = 65) (hn : now < 18446744073709551616) (ha : a < 18446744073709551616) :
    CallW Z Try.prog 26 [.pointer (some ⟨W, 0, none⟩), .int .u64 (a : Int)] A (fun v A' => v = .map (some (ms[plc now a]'(by rw [hm]; exact plc_lt))) ∧ ∃ k, A' = { A with next := A.next + k }) := by
  refine CallW.of_code E0_ok E0_ro fn26 rfl (n := 33) rfl (rs := [.tmp 4]) rfl (by simp) (codeW_ok E0_ok E0_ro ?_)
  have hx : a ^^^ now < 18446744073709551616 := Nat.xor_lt_two_pow (n := 64) (by omega) (by omega)
  have hb : Lib.bitLen (a ^^^ now) ≤ 64 := Lib.bitLen_le _ _ (by omega) hx
  simp only [hW, oneW_next, tg_eq, tgN_eq, brW_true, brW_false, c_skip, c_ret, c_exit, c_seq, c_cond, condW_b, c_block, c_scope, c_region, c_drawn, c_loop, onw_n, onw_r, onw_e, outb_e, outb_o, outb_n, outb_r, putW_some, putW_none, opsW_arr, opsW_nil, opsW_cons, wanted_none, wanted_some, guardB_some, oneW_next, oneW_move, oneW_assign, oneW_pick, oneW_build, oneW_load, oneW_store, oneW_nilCheck, oneW_binOp, oneW_unOp, oneW_makeFunc, oneW_slice, oneW_fieldAddr, oneW_field, oneW_indexAddr, oneW_index, oneW_lookup, oneW_mapUpdate, oneW_range, oneW_entry, oneW_extract, oneW_call, oneW_alloc, oneW_box, oneW_makeMap, oneW_buildSlice, oneW_convert, Hands, handsV, resultsV, oneOrTuple, argsT, arW_val, ofVal_some, plain_val, cond_true, cond_false,
    aOp_move, aOp_assign, aOp_pick, aOp_build, aOp_load, aOp_store, aOp_nilCheck, aOp_binOp, aOp_unOp, aOp_makeFunc, aOp_slice, aOp_fieldAddr, aOp_field, aOp_indexAddr, aOp_index, aOp_lookup, aOp_mapUpdate, aOp_range, aOp_entry, aOp_extract, aOp_call, aOp_alloc, aOp_box, aOp_makeMap, aOp_buildSlice, aInvoke_func,
    nbeq, nble, nblt, cond_dec, decide_true, decide_false, decide_eq_true_eq, Bool.false_eq_true, Bool.and_true, Bool.true_and, Bool.not_true, Bool.not_false, bq_t, bq_f, ev, evs, evPairs, evOpt, closed, flat, tget_put, Nat.reduceEqDiff, Nat.reduceAdd, Nat.reduceMul, Nat.reduceSub, Nat.reduceLT, Nat.reduceLeDiff, Nat.reduceBEq, reduceIte, if_true, if_false, reduceCtorEq, nth, aCall, aEnter, notYield, aNilCheck, aLoad, partV, isAggD, aFieldAddr, aField, aExtract, b_add, b_sub, b_mul, b_xor, b_eql, b_neq, b_lss, b_leq, b_gtr, b_geq, b_shr, Option.isNone, aBuiltin,
    List.length_cons, List.length_nil, true_implies, false_implies, and_true, true_and, implies_true, forall_const, List.append_nil, List.cons_append, List.nil_append, ASt.get_set, ASt.get_new, ASt.next_set, ASt.next_new, Nat.zero_add, Nat.add_zero, eq_self, ctor_self, ti63, t63_desc, t63_size, ti25, t25_desc, ti22, t22_desc, t22_size, ti59, t59_desc, t59_size, ti60, t60_desc, t60_size, ti61, t61_desc, t61_size, ti3, t3_desc, t3_size, ti40, t40_desc, t40_size, ti33, t33_desc, t33_size, ti9, t9_desc, t9_size, wrow_now, wrow_all, eqnil25, fn17, fn26, fn27, fn28, fn29, fn38, fn39, fn12, fn14, fn15, b_xor64 ha hn]
  refine CallT.mono (len64 _ hx A) ?_
  rintro _ A' ⟨rfl, hA'⟩
  subst hA'
  simp only [hW, oneW_next, tg_eq, tgN_eq, brW_true, brW_false, c_skip, c_ret, c_exit, c_seq, c_cond, condW_b, c_block, c_scope, c_region, c_drawn, c_loop, onw_n, onw_r, onw_e, outb_e, outb_o, outb_n, outb_r, putW_some, putW_none, opsW_arr, opsW_nil, opsW_cons, wanted_none, wanted_some, guardB_some, oneW_next, oneW_move, oneW_assign, oneW_pick, oneW_build, oneW_load, oneW_store, oneW_nilCheck, oneW_binOp, oneW_unOp, oneW_makeFunc, oneW_slice, oneW_fieldAddr, oneW_field, oneW_indexAddr, oneW_index, oneW_lookup, oneW_mapUpdate, oneW_range, oneW_entry, oneW_extract, oneW_call, oneW_alloc, oneW_box, oneW_makeMap, oneW_buildSlice, oneW_convert, Hands, handsV, resultsV, oneOrTuple, argsT, arW_val, ofVal_some, plain_val, cond_true, cond_false,
    aOp_move, aOp_assign, aOp_pick, aOp_build, aOp_load, aOp_store, aOp_nilCheck, aOp_binOp, aOp_unOp, aOp_makeFunc, aOp_slice, aOp_fieldAddr, aOp_field, aOp_indexAddr, aOp_index, aOp_lookup, aOp_mapUpdate, aOp_range, aOp_entry, aOp_extract, aOp_call, aOp_alloc, aOp_box, aOp_makeMap, aOp_buildSlice, aInvoke_func,
    nbeq, nble, nblt, cond_dec, decide_true, decide_false, decide_eq_true_eq, Bool.false_eq_true, Bool.and_true, Bool.true_and, Bool.not_true, Bool.not_false, bq_t, bq_f, ev, evs, evPairs, evOpt, closed, flat, tget_put, Nat.reduceEqDiff, Nat.reduceAdd, Nat.reduceMul, Nat.reduceSub, Nat.reduceLT, Nat.reduceLeDiff, Nat.reduceBEq, reduceIte, if_true, if_false, reduceCtorEq, nth, aCall, aEnter, notYield, aNilCheck, aLoad, partV, isAggD, aFieldAddr, aField, aExtract, b_add, b_sub, b_mul, b_xor, b_eql, b_neq, b_lss, b_leq, b_gtr, b_geq, b_shr, Option.isNone, aBuiltin,
    List.length_cons, List.length_nil, true_implies, false_implies, and_true, true_and, implies_true, forall_const, List.append_nil, List.cons_append, List.nil_append, ASt.get_set, ASt.get_new, ASt.next_set, ASt.next_new, Nat.zero_add, Nat.add_zero, eq_self, ctor_self, ti63, t63_desc, t63_size, ti25, t25_desc, ti22, t22_desc, t22_size, ti59, t59_desc, t59_size, ti60, t60_desc, t60_size, ti61, t61_desc, t61_size, ti3, t3_desc, t3_size, ti40, t40_desc, t40_size, ti33, t33_desc, t33_size, ti9, t9_desc, t9_size, wrow_now, wrow_all, eqnil25, fn17, fn26, fn27, fn28, fn29, fn38, fn39, fn12, fn14, fn15, b_quo (show (4 : Int) ≠ 0 by decide), lvl_int hb]
  refine brW_dec (fun h4 => ?_) (fun h4 => ?_)
  · have h4' : 4 ≤ lvl now a := by unfold lvl; omega
    have hp : plc now a = 64 := if_pos h4'
    have e66 : nth (wrow now all ms) 66 = some (.map (some (ms[plc now a]'(by rw [hm]; exact plc_lt)))) := by
      have := wrow_slot (now := now) (all := all) (ms := ms) (k := 64) (by omega)
      simp only [hp]
      exact this
    simp only [hW, oneW_next, tg_eq, tgN_eq, brW_true, brW_false, c_skip, c_ret, c_exit, c_seq, c_cond, condW_b, c_block, c_scope, c_region, c_drawn, c_loop, onw_n, onw_r, onw_e, outb_e, outb_o, outb_n, outb_r, putW_some, putW_none, opsW_arr, opsW_nil, opsW_cons, wanted_none, wanted_some, guardB_some, oneW_next, oneW_move, oneW_assign, oneW_pick, oneW_build, oneW_load, oneW_store, oneW_nilCheck, oneW_binOp, oneW_unOp, oneW_makeFunc, oneW_slice, oneW_fieldAddr, oneW_field, oneW_indexAddr, oneW_index, oneW_lookup, oneW_mapUpdate, oneW_range, oneW_entry, oneW_extract, oneW_call, oneW_alloc, oneW_box, oneW_makeMap, oneW_buildSlice, oneW_convert, Hands, handsV, resultsV, oneOrTuple, argsT, arW_val, ofVal_some, plain_val, cond_true, cond_false,
    aOp_move, aOp_assign, aOp_pick, aOp_build, aOp_load, aOp_store, aOp_nilCheck, aOp_binOp, aOp_unOp, aOp_makeFunc, aOp_slice, aOp_fieldAddr, aOp_field, aOp_indexAddr, aOp_index, aOp_lookup, aOp_mapUpdate, aOp_range, aOp_entry, aOp_extract, aOp_call, aOp_alloc, aOp_box, aOp_makeMap, aOp_buildSlice, aInvoke_func,
    nbeq, nble, nblt, cond_dec, decide_true, decide_false, decide_eq_true_eq, Bool.false_eq_true, Bool.and_true, Bool.true_and, Bool.not_true, Bool.not_false, bq_t, bq_f, ev, evs, evPairs, evOpt, closed, flat, tget_put, Nat.reduceEqDiff, Nat.reduceAdd, Nat.reduceMul, Nat.reduceSub, Nat.reduceLT, Nat.reduceLeDiff, Nat.reduceBEq, reduceIte, if_true, if_false, reduceCtorEq, nth, aCall, aEnter, notYield, aNilCheck, aLoad, partV, isAggD, aFieldAddr, aField, aExtract, b_add, b_sub, b_mul, b_xor, b_eql, b_neq, b_lss, b_leq, b_gtr, b_geq, b_shr, Option.isNone, aBuiltin,
    List.length_cons, List.length_nil, true_implies, false_implies, and_true, true_and, implies_true, forall_const, List.append_nil, List.cons_append, List.nil_append, ASt.get_set, ASt.get_new, ASt.next_set, ASt.next_new, Nat.zero_add, Nat.add_zero, eq_self, ctor_self, ti63, t63_desc, t63_size, ti25, t25_desc, ti22, t22_desc, t22_size, ti59, t59_desc, t59_size, ti60, t60_desc, t60_size, ti61, t61_desc, t61_size, ti3, t3_desc, t3_size, ti40, t40_desc, t40_size, ti33, t33_desc, t33_size, ti9, t9_desc, t9_size, wrow_now, wrow_all, eqnil25, fn17, fn26, fn27, fn28, fn29, fn38, fn39, fn12, fn14, fn15, e66]
    exact ⟨0, rfl⟩
  · have hl : lvl now a < 4 := by unfold lvl; omega
    have hp : plc now a = 16 * lvl now a + a / 2 ^ (4 * lvl now a) % 16 := if_neg (by omega)
    have e4 : IntKind.i64.wrap (4 * ((lvl now a : Nat) : Int)) = ((4 * lvl now a : Nat) : Int) := by rw [IntKind.wrap_i64]; omega
    have hr : a / 2 ^ (4 * lvl now a) % 16 < 16 := Nat.mod_lt _ (by omega)
    have hlv : (Lib.bitLen (a ^^^ now) - 1) / 4 = lvl now a := rfl
    have esl : nth (wrow now all ms) (2 + lvl now a * 16 + a / 2 ^ (4 * lvl now a) % 16) = some (.map (some (ms[plc now a]'(by rw [hm]; exact plc_lt)))) := by
      have := wrow_slot (now := now) (all := all) (ms := ms) (k := plc now a) (by rw [hm]; exact plc_lt)
      rw [← this, hp]
      congr 1; omega
    rw [hlv]
    generalize lvl now a = lv at hl e4 hr esl
    have esh : ∀ xo yo t, aBin2 E0 .shr t xo yo (.int .u64 (a : Int)) (.int .i64 ((4 * lv : Nat) : Int)) = some (.int .u64 ((a / 2 ^ (4 * lv) : Nat) : Int)) := fun xo yo t => b_shr64 (by omega)
    have ere : ∀ xo yo t, aBin2 E0 .rem t xo yo (.int .u64 ((a / 2 ^ (4 * lv) : Nat) : Int)) (.int .u64 16) = some (.int .u64 ((a / 2 ^ (4 * lv) % 16 : Nat) : Int)) := fun xo yo t => b_rem_nat (b := 16) (by decide)
    generalize a / 2 ^ (4 * lv) = q at hr esl esh ere
    generalize q % 16 = r at hr esl ere
    have ei1 : ∀ o, aIndexAddr E0 61 (.pointer (some ⟨W, o, none⟩)) (.int .i64 (lv : Int)) = some (.pointer (some ⟨W, o + lv * 16, none⟩)) := fun o => by
      have := indexAddr_arr (A := A') ti61 t61_desc ti60 (kd := .i64) (k := lv) (b := W) (off := o) hl
      rwa [t60_size] at this
    have ei2 : ∀ o, aIndexAddr E0 60 (.pointer (some ⟨W, o, none⟩)) (.int .u64 (r : Int)) = some (.pointer (some ⟨W, o + r, none⟩)) := fun o => by
      have := indexAddr_arr (A := A') ti60 t60_desc ti59 (kd := .u64) (k := r) (b := W) (off := o) hr
      rwa [t59_size, Nat.mul_one] at this
    simp only [hW, oneW_next, tg_eq, tgN_eq, brW_true, brW_false, c_skip, c_ret, c_exit, c_seq, c_cond, condW_b, c_block, c_scope, c_region, c_drawn, c_loop, onw_n, onw_r, onw_e, outb_e, outb_o, outb_n, outb_r, putW_some, putW_none, opsW_arr, opsW_nil, opsW_cons, wanted_none, wanted_some, guardB_some, oneW_next, oneW_move, oneW_assign, oneW_pick, oneW_build, oneW_load, oneW_store, oneW_nilCheck, oneW_binOp, oneW_unOp, oneW_makeFunc, oneW_slice, oneW_fieldAddr, oneW_field, oneW_indexAddr, oneW_index, oneW_lookup, oneW_mapUpdate, oneW_range, oneW_entry, oneW_extract, oneW_call, oneW_alloc, oneW_box, oneW_makeMap, oneW_buildSlice, oneW_convert, Hands, handsV, resultsV, oneOrTuple, argsT, arW_val, ofVal_some, plain_val, cond_true, cond_false,
    aOp_move, aOp_assign, aOp_pick, aOp_build, aOp_load, aOp_store, aOp_nilCheck, aOp_binOp, aOp_unOp, aOp_makeFunc, aOp_slice, aOp_fieldAddr, aOp_field, aOp_indexAddr, aOp_index, aOp_lookup, aOp_mapUpdate, aOp_range, aOp_entry, aOp_extract, aOp_call, aOp_alloc, aOp_box, aOp_makeMap, aOp_buildSlice, aInvoke_func,
    nbeq, nble, nblt, cond_dec, decide_true, decide_false, decide_eq_true_eq, Bool.false_eq_true, Bool.and_true, Bool.true_and, Bool.not_true, Bool.not_false, bq_t, bq_f, ev, evs, evPairs, evOpt, closed, flat, tget_put, Nat.reduceEqDiff, Nat.reduceAdd, Nat.reduceMul, Nat.reduceSub, Nat.reduceLT, Nat.reduceLeDiff, Nat.reduceBEq, reduceIte, if_true, if_false, reduceCtorEq, nth, aCall, aEnter, notYield, aNilCheck, aLoad, partV, isAggD, aFieldAddr, aField, aExtract, b_add, b_sub, b_mul, b_xor, b_eql, b_neq, b_lss, b_leq, b_gtr, b_geq, b_shr, Option.isNone, aBuiltin,
    List.length_cons, List.length_nil, true_implies, false_implies, and_true, true_and, implies_true, forall_const, List.append_nil, List.cons_append, List.nil_append, ASt.get_set, ASt.get_new, ASt.next_set, ASt.next_new, Nat.zero_add, Nat.add_zero, eq_self, ctor_self, ti63, t63_desc, t63_size, ti25, t25_desc, ti22, t22_desc, t22_size, ti59, t59_desc, t59_size, ti60, t60_desc, t60_size, ti61, t61_desc, t61_size, ti3, t3_desc, t3_size, ti40, t40_desc, t40_size, ti33, t33_desc, t33_size, ti9, t9_desc, t9_size, wrow_now, wrow_all, eqnil25, fn17, fn26, fn27, fn28, fn29, fn38, fn39, fn12, fn14, fn15]
    refine CodeW.quiet E0_ok E0_ro mixed (by kernel_rfl) (by kernel_rfl) ?_
    simp only [hW, oneW_next, tg_eq, tgN_eq, brW_true, brW_false, c_skip, c_ret, c_exit, c_seq, c_cond, condW_b, c_block, c_scope, c_region, c_drawn, c_loop, onw_n, onw_r, onw_e, outb_e, outb_o, outb_n, outb_r, putW_some, putW_none, opsW_arr, opsW_nil, opsW_cons, wanted_none, wanted_some, guardB_some, oneW_next, oneW_move, oneW_assign, oneW_pick, oneW_build, oneW_load, oneW_store, oneW_nilCheck, oneW_binOp, oneW_unOp, oneW_makeFunc, oneW_slice, oneW_fieldAddr, oneW_field, oneW_indexAddr, oneW_index, oneW_lookup, oneW_mapUpdate, oneW_range, oneW_entry, oneW_extract, oneW_call, oneW_alloc, oneW_box, oneW_makeMap, oneW_buildSlice, oneW_convert, Hands, handsV, resultsV, oneOrTuple, argsT, arW_val, ofVal_some, plain_val, cond_true, cond_false,
    aOp_move, aOp_assign, aOp_pick, aOp_build, aOp_load, aOp_store, aOp_nilCheck, aOp_binOp, aOp_unOp, aOp_makeFunc, aOp_slice, aOp_fieldAddr, aOp_field, aOp_indexAddr, aOp_index, aOp_lookup, aOp_mapUpdate, aOp_range, aOp_entry, aOp_extract, aOp_call, aOp_alloc, aOp_box, aOp_makeMap, aOp_buildSlice, aInvoke_func,
    nbeq, nble, nblt, cond_dec, decide_true, decide_false, decide_eq_true_eq, Bool.false_eq_true, Bool.and_true, Bool.true_and, Bool.not_true, Bool.not_false, bq_t, bq_f, ev, evs, evPairs, evOpt, closed, flat, tget_put, Nat.reduceEqDiff, Nat.reduceAdd, Nat.reduceMul, Nat.reduceSub, Nat.reduceLT, Nat.reduceLeDiff, Nat.reduceBEq, reduceIte, if_true, if_false, reduceCtorEq, nth, aCall, aEnter, notYield, aNilCheck, aLoad, partV, isAggD, aFieldAddr, aField, aExtract, b_add, b_sub, b_mul, b_xor, b_eql, b_neq, b_lss, b_leq, b_gtr, b_geq, b_shr, Option.isNone, aBuiltin,
    List.length_cons, List.length_nil, true_implies, false_implies, and_true, true_and, implies_true, forall_const, List.append_nil, List.cons_append, List.nil_append, ASt.get_set, ASt.get_new, ASt.next_set, ASt.next_new, Nat.zero_add, Nat.add_zero, eq_self, ctor_self, ti63, t63_desc, t63_size, ti25, t25_desc, ti22, t22_desc, t22_size, ti59, t59_desc, t59_size, ti60, t60_desc, t60_size, ti61, t61_desc, t61_size, ti3, t3_desc, t3_size, ti40, t40_desc, t40_size, ti33, t33_desc, t33_size, ti9, t9_desc, t9_size, wrow_now, wrow_all, eqnil25, fn17, fn26, fn27, fn28, fn29, fn38, fn39, fn12, fn14, fn15, quietW_nil, quietW_arr, quietW_cons, aStill, freshOp, quietOp, E0_ron, get_empty, get_next, ofVal_none, valEq_int, valEq_str, valEq_bool, valEq_map, valEq_ptr, valEq_slice, valEq_nilSlice, valEq_mapNil, List.length_cons, List.length_nil, e4, esh, ere, ei1, ei2, esl]
    exact ⟨13, rfl⟩
end Go.Proofs.Ytpmpclieclcbdaa

/- The wheel's put and drop. -/
namespace Go.Proofs.Ytpmpclieclcbdaa
open Go Go.AE

/-- Nothing but some blocks, and new ones, has turned. -/
structure Fr (own : List Nat) (A A' : ASt) : Prop where
  next : A.next ≤ A'.next
  get : ∀ b, b < A.next → b ∉ own → A'.get b = A.get b

theorem Fr.refl (own : List Nat) (A : ASt) : Fr own A A := ⟨Nat.le_refl _, fun _ _ _ => rfl⟩
theorem Fr.trans {own : List Nat} {A B C : ASt} (h : Fr own A B) (k : Fr own B C) : Fr own A C :=
  ⟨Nat.le_trans h.next k.next, fun b hb hn => (k.get b (Nat.lt_of_lt_of_le hb h.next) hn).trans (h.get b hb hn)⟩
theorem Fr.sub {own own' : List Nat} {A B : ASt} (h : Fr own A B) (hs : ∀ b ∈ own, b ∈ own') : Fr own' A B := ⟨h.next, fun b hb hn => h.get b hb fun hm => hn (hs b hm)⟩

/-- The timers of a wheel, by their names. -/
abbrev TM := ByteArray → Option Nat
noncomputable def TM.put (M : TM) (k : ByteArray) (a : Nat) : TM := fun j => if j = k then some a else M j
noncomputable def TM.del (M : TM) (k : ByteArray) : TM := fun j => if j = k then none else M j

/-- A map holds just these. -/
def Holds (A : ASt) (m : Nat) (M : TM) : Prop := ∃ l ck, A.get m = some (.map (uEnts l) ck) ∧ MapOK l ck ∧ ∀ k, uget l k = M k

theorem Holds.congr {A A' : ASt} {m : Nat} {M : TM} (h : Holds A m M) (e : A'.get m = A.get m) : Holds A' m M := by
  obtain ⟨l, ck, h1, h2⟩ := h
  exact ⟨l, ck, by rw [e]; exact h1, h2⟩
theorem Holds.ext {A : ASt} {m : Nat} {M M' : TM} (h : Holds A m M) (e : ∀ k, M k = M' k) : Holds A m M' := by
  obtain ⟨l, ck, h1, h2, h3⟩ := h
  exact ⟨l, ck, h1, h2, fun k => (h3 k).trans (e k)⟩

/-- Those that stand at one place. -/
noncomputable def TM.at_ (M : TM) (now i : Nat) : TM := fun k => (M k).filter fun a => decide (plc now a = i)

structure WheelAt (A : ASt) (W all : Nat) (ms : List Nat) (now : Nat) (M : TM) : Prop where
  row : A.get W = some (.row (wrow now all ms) 67 false)
  len : ms.length = 65
  nowlt : now < 18446744073709551616
  nodup : (W :: all :: ms).Nodup
  below : ∀ b ∈ W :: all :: ms, b < A.next
  allm : Holds A all M
  slot : ∀ i m, ms[i]? = some m → Holds A m (M.at_ now i)
  lt : ∀ k a, M k = some a → a < 18446744073709551616
  gt : ∀ k a, M k = some a → now < a

theorem WheelAt.congr {A A' : ASt} {W all now : Nat} {ms : List Nat} {M : TM} (h : WheelAt A W all ms now M) (hn : A.next ≤ A'.next) (e : ∀ b ∈ W :: all :: ms, A'.get b = A.get b) : WheelAt A' W all ms now M :=
  ⟨by rw [e W (by simp)]; exact h.row, h.len, h.nowlt, h.nodup, fun b hb => Nat.lt_of_lt_of_le (h.below b hb) hn, h.allm.congr (e all (by simp)), fun i m hm => (h.slot i m hm).congr (e m (by simp [List.mem_of_getElem? hm])), h.lt, h.gt⟩

theorem WheelAt.plc {A : ASt} {W all now : Nat} {ms : List Nat} {M : TM} (h : WheelAt A W all ms now M) (a : Nat) : plc now a < ms.length := by rw [h.len]; exact plc_lt

theorem WheelAt.ne_all {A : ASt} {W all now : Nat} {ms : List Nat} {M : TM} (h : WheelAt A W all ms now M) {m : Nat} (hm : m ∈ ms) : m ≠ W ∧ m ≠ all ∧ all ≠ W := by
  have := h.nodup
  simp only [List.nodup_cons, List.mem_cons, not_or] at this
  exact ⟨fun e => this.1.2 (e ▸ hm), fun e => this.2.1 (e ▸ hm), fun e => this.1.1 e.symm⟩

theorem WheelAt.inj {A : ASt} {W all now : Nat} {ms : List Nat} {M : TM} (h : WheelAt A W all ms now M) {i j m : Nat} (hi : ms[i]? = some m) (hj : ms[j]? = some m) : i = j := by
  have := h.nodup
  simp only [List.nodup_cons] at this
  obtain ⟨hi', hi⟩ := List.getElem?_eq_some_iff.1 hi
  obtain ⟨hj', hj⟩ := List.getElem?_eq_some_iff.1 hj
  have hp := List.pairwise_iff_getElem.1 this.2.2
  rcases Nat.lt_trichotomy i j with hlt | e | hlt
  · exact absurd (hi.trans hj.symm) (hp i j hi' hj' hlt)
  · exact e
  · exact absurd (hj.trans hi.symm) (hp j i hj' hi' hlt)

variable {Z : Go.AE.Road}
set_option maxRecDepth 10000

theorem lookupT {A : ASt} {m ck : Nat} {l : List UE} (hm : A.get m = some (.map (uEnts l) ck)) (k : ByteArray) :
    aLookup E0 59 (.map (some m)) (.string k) true A = some (.tuple #[.int .u64 ((uget l k).getD 0 : Nat), .bool (uget l k).isSome]) := lookup_u ti59 t59_desc ti9 t9_desc ti22 t22_zero hm k
theorem updateT {A : ASt} {m ck : Nat} {l : List UE} (hm : A.get m = some (.map (uEnts l) ck)) (k : ByteArray) (v : Nat) :
    aMapUpdate E0 59 (.map (some m)) (.string k) (.int .u64 (v : Int)) A = some (A.set m (.map (uEnts (uput k v ck l)) (uck l k ck))) := mapUpdate_u ti59 t59_desc ti9 t9_desc hm k v
theorem deleteT {A : ASt} {m ck : Nat} {l : List UE} (hm : A.get m = some (.map (uEnts l) ck)) (k : ByteArray) :
    aDelete E0 59 (.map (some m)) (.string k) A = .val undef (if (uget l k).isSome then A.set m (.map (uEnts (udel k l)) ck) else A) := delete_u ti59 t59_desc ti9 t9_desc hm k

/-- One name is taken away, in the map of all and where it stands. -/
theorem WheelAt.del {A A' : ASt} {W all now : Nat} {ms : List Nat} {M : TM} (h : WheelAt A W all ms now M) (k : ByteArray) {a : Nat} (ha : M k = some a) {l la : List UE} {ck cka : Nat} {m : Nat} (hm : ms[_root_.Go.Proofs.Ytpmpclieclcbdaa.plc now a]? = some m)
    (hl : A.get m = some (.map (uEnts l) ck)) (hok : MapOK l ck) (hg : ∀ j, uget l j = M.at_ now (_root_.Go.Proofs.Ytpmpclieclcbdaa.plc now a) j) (hla : A.get all = some (.map (uEnts la) cka)) (hoka : MapOK la cka) (hga : ∀ j, uget la j = M j)
    (hn : A.next ≤ A'.next) (e : ∀ b, A'.get b = if b = all then some (.map (uEnts (udel k la)) cka) else if b = m then some (.map (uEnts (udel k l)) ck) else A.get b) : WheelAt A' W all ms now (M.del k) ∧ Fr (W :: all :: ms) A A' := by
  have hmem := List.mem_of_getElem? hm
  obtain ⟨n1, n2, n3⟩ := h.ne_all hmem
  refine ⟨⟨?_, h.len, h.nowlt, h.nodup, fun b hb => Nat.lt_of_lt_of_le (h.below b hb) hn, ?_, ?_, ?_, ?_⟩, hn, fun b hb hno => ?_⟩
  · rw [e, if_neg (Ne.symm n3), if_neg (Ne.symm n1)]; exact h.row
  · refine ⟨_, _, by rw [e, if_pos rfl], udel_ok hoka, fun j => ?_⟩
    rw [uget_udel hoka.keys, hga]; rfl
  · intro i m' hm'
    have hmem' := List.mem_of_getElem? hm'
    obtain ⟨_, n2', _⟩ := h.ne_all hmem'
    by_cases e2 : m' = m
    · subst e2
      have : i = _ := h.inj hm' hm
      subst this
      refine ⟨_, _, by rw [e, if_neg n2, if_pos rfl], udel_ok hok, fun j => ?_⟩
      rw [uget_udel hok.keys, hg]
      unfold TM.at_ TM.del
      by_cases ej : j = k <;> simp [ej]
    · refine ((h.slot i m' hm').congr (by rw [e, if_neg n2', if_neg e2])).ext fun j => ?_
      unfold TM.at_ TM.del
      by_cases ej : j = k
      · subst ej
        rw [if_pos rfl, ha]
        have hne : _root_.Go.Proofs.Ytpmpclieclcbdaa.plc now a ≠ i := fun ee => e2 (by rw [ee, hm'] at hm; exact Option.some.inj hm)
        simp [Option.filter, hne]
      · rw [if_neg ej]
  · intro j b hj
    unfold TM.del at hj
    split at hj
    · cases hj
    · exact h.lt j b hj
  · intro j b hj
    unfold TM.del at hj
    split at hj
    · cases hj
    · exact h.gt j b hj
  · rw [e, if_neg (fun ee => hno (by simp [ee])), if_neg (fun ee => hno (by simp [ee, hmem]))]

theorem drop_spec {A : ASt} {W all now : Nat} {ms : List Nat} {M : TM} (h : WheelAt A W all ms now M) (k : ByteArray) :
    CallW Z Try.prog 17 [.pointer (some ⟨W, 0, none⟩), .string k] A (fun v A' => v = .bool (M k).isSome ∧ WheelAt A' W all ms now (M.del k) ∧ Fr (W :: all :: ms) A A') := by
  refine CallW.of_code E0_ok E0_ro fn17 rfl (n := 29) rfl (rs := [.tmp 4]) rfl (by simp) (codeW_ok E0_ok E0_ro ?_)
  have hW := h.row
  obtain ⟨la, cka, hla, hoka, hga⟩ := h.allm
  have hlk := lookupT hla k
  rw [hga] at hlk
  simp only [hW, oneW_next, tg_eq, tgN_eq, brW_true, brW_false, c_skip, c_ret, c_exit, c_seq, c_cond, condW_b, c_block, c_scope, c_region, c_drawn, c_loop, onw_n, onw_r, onw_e, outb_e, outb_o, outb_n, outb_r, putW_some, putW_none, opsW_arr, opsW_nil, opsW_cons, wanted_none, wanted_some, guardB_some, oneW_next, oneW_move, oneW_assign, oneW_pick, oneW_build, oneW_load, oneW_store, oneW_nilCheck, oneW_binOp, oneW_unOp, oneW_makeFunc, oneW_slice, oneW_fieldAddr, oneW_field, oneW_indexAddr, oneW_index, oneW_lookup, oneW_mapUpdate, oneW_range, oneW_entry, oneW_extract, oneW_call, oneW_alloc, oneW_box, oneW_makeMap, oneW_buildSlice, oneW_convert, Hands, handsV, resultsV, oneOrTuple, argsT, arW_val, ofVal_some, plain_val, cond_true, cond_false,
    aOp_move, aOp_assign, aOp_pick, aOp_build, aOp_load, aOp_store, aOp_nilCheck, aOp_binOp, aOp_unOp, aOp_makeFunc, aOp_slice, aOp_fieldAddr, aOp_field, aOp_indexAddr, aOp_index, aOp_lookup, aOp_mapUpdate, aOp_range, aOp_entry, aOp_extract, aOp_call, aOp_alloc, aOp_box, aOp_makeMap, aOp_buildSlice, aInvoke_func,
    nbeq, nble, nblt, cond_dec, decide_true, decide_false, decide_eq_true_eq, Bool.false_eq_true, Bool.and_true, Bool.true_and, Bool.not_true, Bool.not_false, bq_t, bq_f, ev, evs, evPairs, evOpt, closed, flat, tget_put, Nat.reduceEqDiff, Nat.reduceAdd, Nat.reduceMul, Nat.reduceSub, Nat.reduceLT, Nat.reduceLeDiff, Nat.reduceBEq, reduceIte, if_true, if_false, reduceCtorEq, nth, aCall, aEnter, notYield, aNilCheck, aLoad, partV, isAggD, aFieldAddr, aField, aExtract, b_add, b_sub, b_mul, b_xor, b_eql, b_neq, b_lss, b_leq, b_gtr, b_geq, b_shr, Option.isNone, aBuiltin,
    List.length_cons, List.length_nil, true_implies, false_implies, and_true, true_and, implies_true, forall_const, List.append_nil, List.cons_append, List.nil_append, ASt.get_set, ASt.get_new, ASt.next_set, ASt.next_new, Nat.zero_add, Nat.add_zero, eq_self, ctor_self, ti63, t63_desc, t63_size, ti25, t25_desc, ti22, t22_desc, t22_size, ti59, t59_desc, t59_size, ti60, t60_desc, t60_size, ti61, t61_desc, t61_size, ti3, t3_desc, t3_size, ti40, t40_desc, t40_size, ti33, t33_desc, t33_size, ti9, t9_desc, t9_size, wrow_now, wrow_all, eqnil25, fn17, fn26, fn27, fn28, fn29, fn38, fn39, fn12, fn14, fn15, hlk]
  cases hk : M k with
  | none =>
    simp only [Option.isSome_none, hW, oneW_next, tg_eq, tgN_eq, brW_true, brW_false, c_skip, c_ret, c_exit, c_seq, c_cond, condW_b, c_block, c_scope, c_region, c_drawn, c_loop, onw_n, onw_r, onw_e, outb_e, outb_o, outb_n, outb_r, putW_some, putW_none, opsW_arr, opsW_nil, opsW_cons, wanted_none, wanted_some, guardB_some, oneW_next, oneW_move, oneW_assign, oneW_pick, oneW_build, oneW_load, oneW_store, oneW_nilCheck, oneW_binOp, oneW_unOp, oneW_makeFunc, oneW_slice, oneW_fieldAddr, oneW_field, oneW_indexAddr, oneW_index, oneW_lookup, oneW_mapUpdate, oneW_range, oneW_entry, oneW_extract, oneW_call, oneW_alloc, oneW_box, oneW_makeMap, oneW_buildSlice, oneW_convert, Hands, handsV, resultsV, oneOrTuple, argsT, arW_val, ofVal_some, plain_val, cond_true, cond_false,
    aOp_move, aOp_assign, aOp_pick, aOp_build, aOp_load, aOp_store, aOp_nilCheck, aOp_binOp, aOp_unOp, aOp_makeFunc, aOp_slice, aOp_fieldAddr, aOp_field, aOp_indexAddr, aOp_index, aOp_lookup, aOp_mapUpdate, aOp_range, aOp_entry, aOp_extract, aOp_call, aOp_alloc, aOp_box, aOp_makeMap, aOp_buildSlice, aInvoke_func,
    nbeq, nble, nblt, cond_dec, decide_true, decide_false, decide_eq_true_eq, Bool.false_eq_true, Bool.and_true, Bool.true_and, Bool.not_true, Bool.not_false, bq_t, bq_f, ev, evs, evPairs, evOpt, closed, flat, tget_put, Nat.reduceEqDiff, Nat.reduceAdd, Nat.reduceMul, Nat.reduceSub, Nat.reduceLT, Nat.reduceLeDiff, Nat.reduceBEq, reduceIte, if_true, if_false, reduceCtorEq, nth, aCall, aEnter, notYield, aNilCheck, aLoad, partV, isAggD, aFieldAddr, aField, aExtract, b_add, b_sub, b_mul, b_xor, b_eql, b_neq, b_lss, b_leq, b_gtr, b_geq, b_shr, Option.isNone, aBuiltin,
    List.length_cons, List.length_nil, true_implies, false_implies, and_true, true_and, implies_true, forall_const, List.append_nil, List.cons_append, List.nil_append, ASt.get_set, ASt.get_new, ASt.next_set, ASt.next_new, Nat.zero_add, Nat.add_zero, eq_self, ctor_self, ti63, t63_desc, t63_size, ti25, t25_desc, ti22, t22_desc, t22_size, ti59, t59_desc, t59_size, ti60, t60_desc, t60_size, ti61, t61_desc, t61_size, ti3, t3_desc, t3_size, ti40, t40_desc, t40_size, ti33, t33_desc, t33_size, ti9, t9_desc, t9_size, wrow_now, wrow_all, eqnil25, fn17, fn26, fn27, fn28, fn29, fn38, fn39, fn12, fn14, fn15]
    refine ⟨?_, .refl _ _⟩
    have : M.del k = M := by
      funext j
      unfold TM.del
      by_cases e : j = k <;> simp [e, hk]
    rw [this]; exact h
  | some a =>
    have ha := h.lt k a hk
    simp only [Option.isSome_some, Option.getD_some, hW, oneW_next, tg_eq, tgN_eq, brW_true, brW_false, c_skip, c_ret, c_exit, c_seq, c_cond, condW_b, c_block, c_scope, c_region, c_drawn, c_loop, onw_n, onw_r, onw_e, outb_e, outb_o, outb_n, outb_r, putW_some, putW_none, opsW_arr, opsW_nil, opsW_cons, wanted_none, wanted_some, guardB_some, oneW_next, oneW_move, oneW_assign, oneW_pick, oneW_build, oneW_load, oneW_store, oneW_nilCheck, oneW_binOp, oneW_unOp, oneW_makeFunc, oneW_slice, oneW_fieldAddr, oneW_field, oneW_indexAddr, oneW_index, oneW_lookup, oneW_mapUpdate, oneW_range, oneW_entry, oneW_extract, oneW_call, oneW_alloc, oneW_box, oneW_makeMap, oneW_buildSlice, oneW_convert, Hands, handsV, resultsV, oneOrTuple, argsT, arW_val, ofVal_some, plain_val, cond_true, cond_false,
    aOp_move, aOp_assign, aOp_pick, aOp_build, aOp_load, aOp_store, aOp_nilCheck, aOp_binOp, aOp_unOp, aOp_makeFunc, aOp_slice, aOp_fieldAddr, aOp_field, aOp_indexAddr, aOp_index, aOp_lookup, aOp_mapUpdate, aOp_range, aOp_entry, aOp_extract, aOp_call, aOp_alloc, aOp_box, aOp_makeMap, aOp_buildSlice, aInvoke_func,
    nbeq, nble, nblt, cond_dec, decide_true, decide_false, decide_eq_true_eq, Bool.false_eq_true, Bool.and_true, Bool.true_and, Bool.not_true, Bool.not_false, bq_t, bq_f, ev, evs, evPairs, evOpt, closed, flat, tget_put, Nat.reduceEqDiff, Nat.reduceAdd, Nat.reduceMul, Nat.reduceSub, Nat.reduceLT, Nat.reduceLeDiff, Nat.reduceBEq, reduceIte, if_true, if_false, reduceCtorEq, nth, aCall, aEnter, notYield, aNilCheck, aLoad, partV, isAggD, aFieldAddr, aField, aExtract, b_add, b_sub, b_mul, b_xor, b_eql, b_neq, b_lss, b_leq, b_gtr, b_geq, b_shr, Option.isNone, aBuiltin,
    List.length_cons, List.length_nil, true_implies, false_implies, and_true, true_and, implies_true, forall_const, List.append_nil, List.cons_append, List.nil_append, ASt.get_set, ASt.get_new, ASt.next_set, ASt.next_new, Nat.zero_add, Nat.add_zero, eq_self, ctor_self, ti63, t63_desc, t63_size, ti25, t25_desc, ti22, t22_desc, t22_size, ti59, t59_desc, t59_size, ti60, t60_desc, t60_size, ti61, t61_desc, t61_size, ti3, t3_desc, t3_size, ti40, t40_desc, t40_size, ti33, t33_desc, t33_size, ti9, t9_desc, t9_size, wrow_now, wrow_all, eqnil25, fn17, fn26, fn27, fn28, fn29, fn38, fn39, fn12, fn14, fn15]
    refine CallT.mono (place_walk hW h.len h.nowlt ha) ?_
    rintro _ _ ⟨rfl, x, rfl⟩
    have hm : ms[plc now a]? = some (ms[plc now a]'(h.plc a)) := List.getElem?_eq_getElem _
    generalize ms[plc now a]'(h.plc a) = m at hm
    obtain ⟨l, ck, hl, hok, hg⟩ := h.slot _ _ hm
    have hmem := List.mem_of_getElem? hm
    obtain ⟨n1, n2, n3⟩ := h.ne_all hmem
    have hgk : uget l k = some a := by rw [hg]; simp [TM.at_, hk, Option.filter]
    have hl' : ASt.get { heap := A.heap, next := A.next + x } m = some (.map (uEnts l) ck) := hl
    have hdel := deleteT hl' k
    rw [hgk] at hdel
    simp only [Option.isSome_some, if_true] at hdel
    have hla' : (ASt.set { heap := A.heap, next := A.next + x } m (.map (uEnts (udel k l)) ck)).get all = some (.map (uEnts la) cka) := by
      rw [ASt.get_set, if_neg (Ne.symm n2)]; exact hla
    have hdel2 := deleteT hla' k
    rw [hga, hk] at hdel2
    simp only [Option.isSome_some, if_true] at hdel2
    have hW' : (ASt.set { heap := A.heap, next := A.next + x } m (.map (uEnts (udel k l)) ck)).get W = some (.row (wrow now all ms) 67 false) := by
      rw [ASt.get_set, if_neg (Ne.symm n1)]; exact hW
    simp only [hW, oneW_next, tg_eq, tgN_eq, brW_true, brW_false, c_skip, c_ret, c_exit, c_seq, c_cond, condW_b, c_block, c_scope, c_region, c_drawn, c_loop, onw_n, onw_r, onw_e, outb_e, outb_o, outb_n, outb_r, putW_some, putW_none, opsW_arr, opsW_nil, opsW_cons, wanted_none, wanted_some, guardB_some, oneW_next, oneW_move, oneW_assign, oneW_pick, oneW_build, oneW_load, oneW_store, oneW_nilCheck, oneW_binOp, oneW_unOp, oneW_makeFunc, oneW_slice, oneW_fieldAddr, oneW_field, oneW_indexAddr, oneW_index, oneW_lookup, oneW_mapUpdate, oneW_range, oneW_entry, oneW_extract, oneW_call, oneW_alloc, oneW_box, oneW_makeMap, oneW_buildSlice, oneW_convert, Hands, handsV, resultsV, oneOrTuple, argsT, arW_val, ofVal_some, plain_val, cond_true, cond_false,
    aOp_move, aOp_assign, aOp_pick, aOp_build, aOp_load, aOp_store, aOp_nilCheck, aOp_binOp, aOp_unOp, aOp_makeFunc, aOp_slice, aOp_fieldAddr, aOp_field, aOp_indexAddr, aOp_index, aOp_lookup, aOp_mapUpdate, aOp_range, aOp_entry, aOp_extract, aOp_call, aOp_alloc, aOp_box, aOp_makeMap, aOp_buildSlice, aInvoke_func,
    nbeq, nble, nblt, cond_dec, decide_true, decide_false, decide_eq_true_eq, Bool.false_eq_true, Bool.and_true, Bool.true_and, Bool.not_true, Bool.not_false, bq_t, bq_f, ev, evs, evPairs, evOpt, closed, flat, tget_put, Nat.reduceEqDiff, Nat.reduceAdd, Nat.reduceMul, Nat.reduceSub, Nat.reduceLT, Nat.reduceLeDiff, Nat.reduceBEq, reduceIte, if_true, if_false, reduceCtorEq, nth, aCall, aEnter, notYield, aNilCheck, aLoad, partV, isAggD, aFieldAddr, aField, aExtract, b_add, b_sub, b_mul, b_xor, b_eql, b_neq, b_lss, b_leq, b_gtr, b_geq, b_shr, Option.isNone, aBuiltin,
    List.length_cons, List.length_nil, true_implies, false_implies, and_true, true_and, implies_true, forall_const, List.append_nil, List.cons_append, List.nil_append, ASt.get_set, ASt.get_new, ASt.next_set, ASt.next_new, Nat.zero_add, Nat.add_zero, eq_self, ctor_self, ti63, t63_desc, t63_size, ti25, t25_desc, ti22, t22_desc, t22_size, ti59, t59_desc, t59_size, ti60, t60_desc, t60_size, ti61, t61_desc, t61_size, ti3, t3_desc, t3_size, ti40, t40_desc, t40_size, ti33, t33_desc, t33_size, ti9, t9_desc, t9_size, wrow_now, wrow_all, eqnil25, fn17, fn26, fn27, fn28, fn29, fn38, fn39, fn12, fn14, fn15, hdel, hdel2, hW']
    refine h.del k hk hm hl hok hg hla hoka hga ?_ fun b => ?_
    · show A.next ≤ A.next + x
      omega
    · simp only [ASt.get_set]
      rfl
end Go.Proofs.Ytpmpclieclcbdaa

/- The wheel's put, clock, len. -/
namespace Go.Proofs.Ytpmpclieclcbdaa
open Go Go.AE

variable {Z : Go.AE.Road}
set_option maxRecDepth 10000

/-- A name that is not there is laid, in the map of all and where it stands. -/
theorem WheelAt.add {A A' : ASt} {W all now : Nat} {ms : List Nat} {M : TM} (h : WheelAt A W all ms now M) (k : ByteArray) {a : Nat} (hk : M k = none) (ha : now < a) (halt : a < 18446744073709551616) {l la : List UE} {ck cka : Nat} {m : Nat} (hm : ms[_root_.Go.Proofs.Ytpmpclieclcbdaa.plc now a]? = some m)
    (hok : MapOK l ck) (hg : ∀ j, uget l j = M.at_ now (_root_.Go.Proofs.Ytpmpclieclcbdaa.plc now a) j) (hoka : MapOK la cka) (hga : ∀ j, uget la j = M j)
    (hn : A.next ≤ A'.next) (e : ∀ b, A'.get b = if b = m then some (.map (uEnts (uput k a ck l)) (uck l k ck)) else if b = all then some (.map (uEnts (uput k a cka la)) (uck la k cka)) else A.get b) : WheelAt A' W all ms now (M.put k a) ∧ Fr (W :: all :: ms) A A' := by
  have hmem := List.mem_of_getElem? hm
  obtain ⟨n1, n2, n3⟩ := h.ne_all hmem
  refine ⟨⟨?_, h.len, h.nowlt, h.nodup, fun b hb => Nat.lt_of_lt_of_le (h.below b hb) hn, ?_, ?_, ?_, ?_⟩, hn, fun b hb hno => ?_⟩
  · rw [e, if_neg (Ne.symm n1), if_neg (Ne.symm n3)]; exact h.row
  · refine ⟨_, _, by rw [e, if_neg (Ne.symm n2), if_pos rfl], uput_ok hoka, fun j => ?_⟩
    rw [uget_uput, hga]; rfl
  · intro i m' hm'
    have hmem' := List.mem_of_getElem? hm'
    obtain ⟨_, n2', _⟩ := h.ne_all hmem'
    by_cases e2 : m' = m
    · subst e2
      have : i = _ := h.inj hm' hm
      subst this
      refine ⟨_, _, by rw [e, if_pos rfl], uput_ok hok, fun j => ?_⟩
      rw [uget_uput, hg]
      unfold TM.at_ TM.put
      by_cases ej : j = k <;> simp [ej, Option.filter]
    · refine ((h.slot i m' hm').congr (by rw [e, if_neg e2, if_neg n2'])).ext fun j => ?_
      unfold TM.at_ TM.put
      by_cases ej : j = k
      · subst ej
        have hne : _root_.Go.Proofs.Ytpmpclieclcbdaa.plc now a ≠ i := fun ee => e2 (by rw [ee, hm'] at hm; exact Option.some.inj hm)
        simp [Option.filter, hne, hk]
      · rw [if_neg ej]
  · intro j b hj
    unfold TM.put at hj
    split at hj
    · cases hj; exact halt
    · exact h.lt j b hj
  · intro j b hj
    unfold TM.put at hj
    split at hj
    · cases hj; exact ha
    · exact h.gt j b hj
  · rw [e, if_neg (fun ee => hno (by simp [ee, hmem])), if_neg (fun ee => hno (by simp [ee]))]

theorem put_spec {A : ASt} {W all now : Nat} {ms : List Nat} {M : TM} (h : WheelAt A W all ms now M) (k : ByteArray) {a : Nat} (halt : a < 18446744073709551616) :
    CallW Z Try.prog 12 [.pointer (some ⟨W, 0, none⟩), .string k, .int .u64 (a : Int)] A (fun v A' => v = .bool (decide (now < a)) ∧ WheelAt A' W all ms now (if now < a then M.put k a else M) ∧ Fr (W :: all :: ms) A A') := by
  refine CallW.of_code E0_ok E0_ro fn12 rfl (n := 31) rfl (rs := [.tmp 6]) rfl (by simp) (codeW_ok E0_ok E0_ro ?_)
  have hW := h.row
  simp only [hW, oneW_next, tg_eq, tgN_eq, brW_true, brW_false, c_skip, c_ret, c_exit, c_seq, c_cond, condW_b, c_block, c_scope, c_region, c_drawn, c_loop, onw_n, onw_r, onw_e, outb_e, outb_o, outb_n, outb_r, putW_some, putW_none, opsW_arr, opsW_nil, opsW_cons, wanted_none, wanted_some, guardB_some, oneW_next, oneW_move, oneW_assign, oneW_pick, oneW_build, oneW_load, oneW_store, oneW_nilCheck, oneW_binOp, oneW_unOp, oneW_makeFunc, oneW_slice, oneW_fieldAddr, oneW_field, oneW_indexAddr, oneW_index, oneW_lookup, oneW_mapUpdate, oneW_range, oneW_entry, oneW_extract, oneW_call, oneW_alloc, oneW_box, oneW_makeMap, oneW_buildSlice, oneW_convert, Hands, handsV, resultsV, oneOrTuple, argsT, arW_val, ofVal_some, plain_val, cond_true, cond_false,
    aOp_move, aOp_assign, aOp_pick, aOp_build, aOp_load, aOp_store, aOp_nilCheck, aOp_binOp, aOp_unOp, aOp_makeFunc, aOp_slice, aOp_fieldAddr, aOp_field, aOp_indexAddr, aOp_index, aOp_lookup, aOp_mapUpdate, aOp_range, aOp_entry, aOp_extract, aOp_call, aOp_alloc, aOp_box, aOp_makeMap, aOp_buildSlice, aInvoke_func,
    nbeq, nble, nblt, cond_dec, decide_true, decide_false, decide_eq_true_eq, Bool.false_eq_true, Bool.and_true, Bool.true_and, Bool.not_true, Bool.not_false, bq_t, bq_f, ev, evs, evPairs, evOpt, closed, flat, tget_put, Nat.reduceEqDiff, Nat.reduceAdd, Nat.reduceMul, Nat.reduceSub, Nat.reduceLT, Nat.reduceLeDiff, Nat.reduceBEq, reduceIte, if_true, if_false, reduceCtorEq, nth, aCall, aEnter, notYield, aNilCheck, aLoad, partV, isAggD, aFieldAddr, aField, aExtract, b_add, b_sub, b_mul, b_xor, b_eql, b_neq, b_lss, b_leq, b_gtr, b_geq, b_shr, Option.isNone, aBuiltin,
    List.length_cons, List.length_nil, true_implies, false_implies, and_true, true_and, implies_true, forall_const, List.append_nil, List.cons_append, List.nil_append, ASt.get_set, ASt.get_new, ASt.next_set, ASt.next_new, Nat.zero_add, Nat.add_zero, eq_self, ctor_self, ti63, t63_desc, t63_size, ti25, t25_desc, ti22, t22_desc, t22_size, ti59, t59_desc, t59_size, ti60, t60_desc, t60_size, ti61, t61_desc, t61_size, ti3, t3_desc, t3_size, ti40, t40_desc, t40_size, ti33, t33_desc, t33_size, ti9, t9_desc, t9_size, wrow_now, wrow_all, eqnil25, fn17, fn26, fn27, fn28, fn29, fn38, fn39, fn12, fn14, fn15]
  refine brW_dec (fun hle => ?_) (fun hle => ?_)
  · have hn : ¬ now < a := by omega
    simp only [hW, oneW_next, tg_eq, tgN_eq, brW_true, brW_false, c_skip, c_ret, c_exit, c_seq, c_cond, condW_b, c_block, c_scope, c_region, c_drawn, c_loop, onw_n, onw_r, onw_e, outb_e, outb_o, outb_n, outb_r, putW_some, putW_none, opsW_arr, opsW_nil, opsW_cons, wanted_none, wanted_some, guardB_some, oneW_next, oneW_move, oneW_assign, oneW_pick, oneW_build, oneW_load, oneW_store, oneW_nilCheck, oneW_binOp, oneW_unOp, oneW_makeFunc, oneW_slice, oneW_fieldAddr, oneW_field, oneW_indexAddr, oneW_index, oneW_lookup, oneW_mapUpdate, oneW_range, oneW_entry, oneW_extract, oneW_call, oneW_alloc, oneW_box, oneW_makeMap, oneW_buildSlice, oneW_convert, Hands, handsV, resultsV, oneOrTuple, argsT, arW_val, ofVal_some, plain_val, cond_true, cond_false,
    aOp_move, aOp_assign, aOp_pick, aOp_build, aOp_load, aOp_store, aOp_nilCheck, aOp_binOp, aOp_unOp, aOp_makeFunc, aOp_slice, aOp_fieldAddr, aOp_field, aOp_indexAddr, aOp_index, aOp_lookup, aOp_mapUpdate, aOp_range, aOp_entry, aOp_extract, aOp_call, aOp_alloc, aOp_box, aOp_makeMap, aOp_buildSlice, aInvoke_func,
    nbeq, nble, nblt, cond_dec, decide_true, decide_false, decide_eq_true_eq, Bool.false_eq_true, Bool.and_true, Bool.true_and, Bool.not_true, Bool.not_false, bq_t, bq_f, ev, evs, evPairs, evOpt, closed, flat, tget_put, Nat.reduceEqDiff, Nat.reduceAdd, Nat.reduceMul, Nat.reduceSub, Nat.reduceLT, Nat.reduceLeDiff, Nat.reduceBEq, reduceIte, if_true, if_false, reduceCtorEq, nth, aCall, aEnter, notYield, aNilCheck, aLoad, partV, isAggD, aFieldAddr, aField, aExtract, b_add, b_sub, b_mul, b_xor, b_eql, b_neq, b_lss, b_leq, b_gtr, b_geq, b_shr, Option.isNone, aBuiltin,
    List.length_cons, List.length_nil, true_implies, false_implies, and_true, true_and, implies_true, forall_const, List.append_nil, List.cons_append, List.nil_append, ASt.get_set, ASt.get_new, ASt.next_set, ASt.next_new, Nat.zero_add, Nat.add_zero, eq_self, ctor_self, ti63, t63_desc, t63_size, ti25, t25_desc, ti22, t22_desc, t22_size, ti59, t59_desc, t59_size, ti60, t60_desc, t60_size, ti61, t61_desc, t61_size, ti3, t3_desc, t3_size, ti40, t40_desc, t40_size, ti33, t33_desc, t33_size, ti9, t9_desc, t9_size, wrow_now, wrow_all, eqnil25, fn17, fn26, fn27, fn28, fn29, fn38, fn39, fn12, fn14, fn15, hn]
    exact ⟨h, .refl _ _⟩
  · have hn : now < a := by omega
    simp only [hW, oneW_next, tg_eq, tgN_eq, brW_true, brW_false, c_skip, c_ret, c_exit, c_seq, c_cond, condW_b, c_block, c_scope, c_region, c_drawn, c_loop, onw_n, onw_r, onw_e, outb_e, outb_o, outb_n, outb_r, putW_some, putW_none, opsW_arr, opsW_nil, opsW_cons, wanted_none, wanted_some, guardB_some, oneW_next, oneW_move, oneW_assign, oneW_pick, oneW_build, oneW_load, oneW_store, oneW_nilCheck, oneW_binOp, oneW_unOp, oneW_makeFunc, oneW_slice, oneW_fieldAddr, oneW_field, oneW_indexAddr, oneW_index, oneW_lookup, oneW_mapUpdate, oneW_range, oneW_entry, oneW_extract, oneW_call, oneW_alloc, oneW_box, oneW_makeMap, oneW_buildSlice, oneW_convert, Hands, handsV, resultsV, oneOrTuple, argsT, arW_val, ofVal_some, plain_val, cond_true, cond_false,
    aOp_move, aOp_assign, aOp_pick, aOp_build, aOp_load, aOp_store, aOp_nilCheck, aOp_binOp, aOp_unOp, aOp_makeFunc, aOp_slice, aOp_fieldAddr, aOp_field, aOp_indexAddr, aOp_index, aOp_lookup, aOp_mapUpdate, aOp_range, aOp_entry, aOp_extract, aOp_call, aOp_alloc, aOp_box, aOp_makeMap, aOp_buildSlice, aInvoke_func,
    nbeq, nble, nblt, cond_dec, decide_true, decide_false, decide_eq_true_eq, Bool.false_eq_true, Bool.and_true, Bool.true_and, Bool.not_true, Bool.not_false, bq_t, bq_f, ev, evs, evPairs, evOpt, closed, flat, tget_put, Nat.reduceEqDiff, Nat.reduceAdd, Nat.reduceMul, Nat.reduceSub, Nat.reduceLT, Nat.reduceLeDiff, Nat.reduceBEq, reduceIte, if_true, if_false, reduceCtorEq, nth, aCall, aEnter, notYield, aNilCheck, aLoad, partV, isAggD, aFieldAddr, aField, aExtract, b_add, b_sub, b_mul, b_xor, b_eql, b_neq, b_lss, b_leq, b_gtr, b_geq, b_shr, Option.isNone, aBuiltin,
    List.length_cons, List.length_nil, true_implies, false_implies, and_true, true_and, implies_true, forall_const, List.append_nil, List.cons_append, List.nil_append, ASt.get_set, ASt.get_new, ASt.next_set, ASt.next_new, Nat.zero_add, Nat.add_zero, eq_self, ctor_self, ti63, t63_desc, t63_size, ti25, t25_desc, ti22, t22_desc, t22_size, ti59, t59_desc, t59_size, ti60, t60_desc, t60_size, ti61, t61_desc, t61_size, ti3, t3_desc, t3_size, ti40, t40_desc, t40_size, ti33, t33_desc, t33_size, ti9, t9_desc, t9_size, wrow_now, wrow_all, eqnil25, fn17, fn26, fn27, fn28, fn29, fn38, fn39, fn12, fn14, fn15, hn]
    refine CallT.mono (drop_spec h k) ?_
    rintro v B ⟨rfl, h1, f1⟩
    have hW1 := h1.row
    obtain ⟨la, cka, hla, hoka, hga⟩ := h1.allm
    have hu1 := updateT hla k a
    simp only [hW, oneW_next, tg_eq, tgN_eq, brW_true, brW_false, c_skip, c_ret, c_exit, c_seq, c_cond, condW_b, c_block, c_scope, c_region, c_drawn, c_loop, onw_n, onw_r, onw_e, outb_e, outb_o, outb_n, outb_r, putW_some, putW_none, opsW_arr, opsW_nil, opsW_cons, wanted_none, wanted_some, guardB_some, oneW_next, oneW_move, oneW_assign, oneW_pick, oneW_build, oneW_load, oneW_store, oneW_nilCheck, oneW_binOp, oneW_unOp, oneW_makeFunc, oneW_slice, oneW_fieldAddr, oneW_field, oneW_indexAddr, oneW_index, oneW_lookup, oneW_mapUpdate, oneW_range, oneW_entry, oneW_extract, oneW_call, oneW_alloc, oneW_box, oneW_makeMap, oneW_buildSlice, oneW_convert, Hands, handsV, resultsV, oneOrTuple, argsT, arW_val, ofVal_some, plain_val, cond_true, cond_false,
    aOp_move, aOp_assign, aOp_pick, aOp_build, aOp_load, aOp_store, aOp_nilCheck, aOp_binOp, aOp_unOp, aOp_makeFunc, aOp_slice, aOp_fieldAddr, aOp_field, aOp_indexAddr, aOp_index, aOp_lookup, aOp_mapUpdate, aOp_range, aOp_entry, aOp_extract, aOp_call, aOp_alloc, aOp_box, aOp_makeMap, aOp_buildSlice, aInvoke_func,
    nbeq, nble, nblt, cond_dec, decide_true, decide_false, decide_eq_true_eq, Bool.false_eq_true, Bool.and_true, Bool.true_and, Bool.not_true, Bool.not_false, bq_t, bq_f, ev, evs, evPairs, evOpt, closed, flat, tget_put, Nat.reduceEqDiff, Nat.reduceAdd, Nat.reduceMul, Nat.reduceSub, Nat.reduceLT, Nat.reduceLeDiff, Nat.reduceBEq, reduceIte, if_true, if_false, reduceCtorEq, nth, aCall, aEnter, notYield, aNilCheck, aLoad, partV, isAggD, aFieldAddr, aField, aExtract, b_add, b_sub, b_mul, b_xor, b_eql, b_neq, b_lss, b_leq, b_gtr, b_geq, b_shr, Option.isNone, aBuiltin,
    List.length_cons, List.length_nil, true_implies, false_implies, and_true, true_and, implies_true, forall_const, List.append_nil, List.cons_append, List.nil_append, ASt.get_set, ASt.get_new, ASt.next_set, ASt.next_new, Nat.zero_add, Nat.add_zero, eq_self, ctor_self, ti63, t63_desc, t63_size, ti25, t25_desc, ti22, t22_desc, t22_size, ti59, t59_desc, t59_size, ti60, t60_desc, t60_size, ti61, t61_desc, t61_size, ti3, t3_desc, t3_size, ti40, t40_desc, t40_size, ti33, t33_desc, t33_size, ti9, t9_desc, t9_size, wrow_now, wrow_all, eqnil25, fn17, fn26, fn27, fn28, fn29, fn38, fn39, fn12, fn14, fn15, hW1, hu1]
    have hne := h1.nodup
    simp only [List.nodup_cons, List.mem_cons, not_or] at hne
    have hW2 : (B.set all (.map (uEnts (uput k a cka la)) (uck la k cka))).get W = some (.row (wrow now all ms) 67 false) := by
      rw [ASt.get_set, if_neg hne.1.1]; exact hW1
    refine CallT.mono (place_walk hW2 h1.len h1.nowlt halt) ?_
    rintro _ _ ⟨rfl, x, rfl⟩
    have hm : ms[plc now a]? = some (ms[plc now a]'(h.plc a)) := List.getElem?_eq_getElem _
    generalize ms[plc now a]'(h.plc a) = m at hm
    obtain ⟨l, ck, hl, hok, hg⟩ := h1.slot _ _ hm
    have hmem := List.mem_of_getElem? hm
    obtain ⟨n1, n2, n3⟩ := h1.ne_all hmem
    have hl' : ASt.get { heap := (B.set all (.map (uEnts (uput k a cka la)) (uck la k cka))).heap, next := B.next + x } m = some (.map (uEnts l) ck) := by
      rw [get_next, ASt.get_set, if_neg n2]; exact hl
    have hu2 := updateT hl' k a
    simp only [hW, oneW_next, tg_eq, tgN_eq, brW_true, brW_false, c_skip, c_ret, c_exit, c_seq, c_cond, condW_b, c_block, c_scope, c_region, c_drawn, c_loop, onw_n, onw_r, onw_e, outb_e, outb_o, outb_n, outb_r, putW_some, putW_none, opsW_arr, opsW_nil, opsW_cons, wanted_none, wanted_some, guardB_some, oneW_next, oneW_move, oneW_assign, oneW_pick, oneW_build, oneW_load, oneW_store, oneW_nilCheck, oneW_binOp, oneW_unOp, oneW_makeFunc, oneW_slice, oneW_fieldAddr, oneW_field, oneW_indexAddr, oneW_index, oneW_lookup, oneW_mapUpdate, oneW_range, oneW_entry, oneW_extract, oneW_call, oneW_alloc, oneW_box, oneW_makeMap, oneW_buildSlice, oneW_convert, Hands, handsV, resultsV, oneOrTuple, argsT, arW_val, ofVal_some, plain_val, cond_true, cond_false,
    aOp_move, aOp_assign, aOp_pick, aOp_build, aOp_load, aOp_store, aOp_nilCheck, aOp_binOp, aOp_unOp, aOp_makeFunc, aOp_slice, aOp_fieldAddr, aOp_field, aOp_indexAddr, aOp_index, aOp_lookup, aOp_mapUpdate, aOp_range, aOp_entry, aOp_extract, aOp_call, aOp_alloc, aOp_box, aOp_makeMap, aOp_buildSlice, aInvoke_func,
    nbeq, nble, nblt, cond_dec, decide_true, decide_false, decide_eq_true_eq, Bool.false_eq_true, Bool.and_true, Bool.true_and, Bool.not_true, Bool.not_false, bq_t, bq_f, ev, evs, evPairs, evOpt, closed, flat, tget_put, Nat.reduceEqDiff, Nat.reduceAdd, Nat.reduceMul, Nat.reduceSub, Nat.reduceLT, Nat.reduceLeDiff, Nat.reduceBEq, reduceIte, if_true, if_false, reduceCtorEq, nth, aCall, aEnter, notYield, aNilCheck, aLoad, partV, isAggD, aFieldAddr, aField, aExtract, b_add, b_sub, b_mul, b_xor, b_eql, b_neq, b_lss, b_leq, b_gtr, b_geq, b_shr, Option.isNone, aBuiltin,
    List.length_cons, List.length_nil, true_implies, false_implies, and_true, true_and, implies_true, forall_const, List.append_nil, List.cons_append, List.nil_append, ASt.get_set, ASt.get_new, ASt.next_set, ASt.next_new, Nat.zero_add, Nat.add_zero, eq_self, ctor_self, ti63, t63_desc, t63_size, ti25, t25_desc, ti22, t22_desc, t22_size, ti59, t59_desc, t59_size, ti60, t60_desc, t60_size, ti61, t61_desc, t61_size, ti3, t3_desc, t3_size, ti40, t40_desc, t40_size, ti33, t33_desc, t33_size, ti9, t9_desc, t9_size, wrow_now, wrow_all, eqnil25, fn17, fn26, fn27, fn28, fn29, fn38, fn39, fn12, fn14, fn15, hu2]
    have hadd := h1.add k (a := a) (by unfold TM.del; simp) hn halt hm hok hg hoka hga (A' := (ASt.set { heap := (B.set all (.map (uEnts (uput k a cka la)) (uck la k cka))).heap, next := B.next + x } m (.map (uEnts (uput k a ck l)) (uck l k ck)))) (by show B.next ≤ B.next + x; omega) (fun b => by
      rw [ASt.get_set, get_next, ASt.get_set])
    refine ⟨by simp [hn], ?_, f1.trans hadd.2⟩
    rw [if_pos hn]
    have e : (M.del k).put k a = M.put k a := by
      funext j
      unfold TM.put TM.del
      by_cases ej : j = k <;> simp [ej]
    rw [← e]
    exact hadd.1

theorem clock_spec {A : ASt} {W now all : Nat} {ms : List Nat} (hW : A.get W = some (.row (wrow now all ms) 67 false)) :
    CallW Z Try.prog 15 [.pointer (some ⟨W, 0, none⟩)] A (fun v A' => v = .int .u64 (now : Int) ∧ A' = A) := by
  refine CallW.of_code E0_ok E0_ro fn15 rfl (n := 9) rfl (rs := [.tmp 2]) rfl (by simp) (codeW_ok E0_ok E0_ro ?_)
  simp only [hW, oneW_next, tg_eq, tgN_eq, brW_true, brW_false, c_skip, c_ret, c_exit, c_seq, c_cond, condW_b, c_block, c_scope, c_region, c_drawn, c_loop, onw_n, onw_r, onw_e, outb_e, outb_o, outb_n, outb_r, putW_some, putW_none, opsW_arr, opsW_nil, opsW_cons, wanted_none, wanted_some, guardB_some, oneW_next, oneW_move, oneW_assign, oneW_pick, oneW_build, oneW_load, oneW_store, oneW_nilCheck, oneW_binOp, oneW_unOp, oneW_makeFunc, oneW_slice, oneW_fieldAddr, oneW_field, oneW_indexAddr, oneW_index, oneW_lookup, oneW_mapUpdate, oneW_range, oneW_entry, oneW_extract, oneW_call, oneW_alloc, oneW_box, oneW_makeMap, oneW_buildSlice, oneW_convert, Hands, handsV, resultsV, oneOrTuple, argsT, arW_val, ofVal_some, plain_val, cond_true, cond_false,
    aOp_move, aOp_assign, aOp_pick, aOp_build, aOp_load, aOp_store, aOp_nilCheck, aOp_binOp, aOp_unOp, aOp_makeFunc, aOp_slice, aOp_fieldAddr, aOp_field, aOp_indexAddr, aOp_index, aOp_lookup, aOp_mapUpdate, aOp_range, aOp_entry, aOp_extract, aOp_call, aOp_alloc, aOp_box, aOp_makeMap, aOp_buildSlice, aInvoke_func,
    nbeq, nble, nblt, cond_dec, decide_true, decide_false, decide_eq_true_eq, Bool.false_eq_true, Bool.and_true, Bool.true_and, Bool.not_true, Bool.not_false, bq_t, bq_f, ev, evs, evPairs, evOpt, closed, flat, tget_put, Nat.reduceEqDiff, Nat.reduceAdd, Nat.reduceMul, Nat.reduceSub, Nat.reduceLT, Nat.reduceLeDiff, Nat.reduceBEq, reduceIte, if_true, if_false, reduceCtorEq, nth, aCall, aEnter, notYield, aNilCheck, aLoad, partV, isAggD, aFieldAddr, aField, aExtract, b_add, b_sub, b_mul, b_xor, b_eql, b_neq, b_lss, b_leq, b_gtr, b_geq, b_shr, Option.isNone, aBuiltin,
    List.length_cons, List.length_nil, true_implies, false_implies, and_true, true_and, implies_true, forall_const, List.append_nil, List.cons_append, List.nil_append, ASt.get_set, ASt.get_new, ASt.next_set, ASt.next_new, Nat.zero_add, Nat.add_zero, eq_self, ctor_self, ti63, t63_desc, t63_size, ti25, t25_desc, ti22, t22_desc, t22_size, ti59, t59_desc, t59_size, ti60, t60_desc, t60_size, ti61, t61_desc, t61_size, ti3, t3_desc, t3_size, ti40, t40_desc, t40_size, ti33, t33_desc, t33_size, ti9, t9_desc, t9_size, wrow_now, wrow_all, eqnil25, fn17, fn26, fn27, fn28, fn29, fn38, fn39, fn12, fn14, fn15]

/-- How many timers there are. -/
def Cnt (M : TM) (n : Nat) : Prop := ∃ l : List ByteArray, l.Nodup ∧ (∀ k, k ∈ l ↔ (M k).isSome = true) ∧ l.length = n

theorem Holds.cnt {A : ASt} {m : Nat} {M : TM} {l : List UE} {ck : Nat} (_h : A.get m = some (.map (uEnts l) ck)) (hok : MapOK l ck) (hg : ∀ k, uget l k = M k) : Cnt M l.length := by
  refine ⟨l.map (·.1), hok.keys, fun k => ?_, by simp⟩
  rw [← hg]
  constructor
  · intro hk
    obtain ⟨x, hx, rfl⟩ := List.mem_map.1 hk
    rw [uget_mem hok.keys hx]; rfl
  · intro hk
    obtain ⟨v, hv⟩ := Option.isSome_iff_exists.1 hk
    obtain ⟨b, hb⟩ := uget_some hv
    exact List.mem_map.2 ⟨_, hb, rfl⟩

theorem lenT {A : ASt} {m ck : Nat} {l : List UE} (hm : A.get m = some (.map (uEnts l) ck)) : aLen E0 59 (.map (some m)) A = some (goInt l.length) := len_u ti59 t59_desc hm

theorem len_spec {A : ASt} {W all now : Nat} {ms : List Nat} {M : TM} (h : WheelAt A W all ms now M) :
    CallW Z Try.prog 14 [.pointer (some ⟨W, 0, none⟩)] A (fun v A' => (∃ n : Nat, v = .int .i64 (n : Int) ∧ Cnt M n) ∧ A' = A) := by
  refine CallW.of_code E0_ok E0_ro fn14 rfl (n := 10) rfl (rs := [.tmp 2]) rfl (by simp) (codeW_ok E0_ok E0_ro ?_)
  have hW := h.row
  obtain ⟨la, cka, hla, hoka, hga⟩ := h.allm
  simp only [hW, oneW_next, tg_eq, tgN_eq, brW_true, brW_false, c_skip, c_ret, c_exit, c_seq, c_cond, condW_b, c_block, c_scope, c_region, c_drawn, c_loop, onw_n, onw_r, onw_e, outb_e, outb_o, outb_n, outb_r, putW_some, putW_none, opsW_arr, opsW_nil, opsW_cons, wanted_none, wanted_some, guardB_some, oneW_next, oneW_move, oneW_assign, oneW_pick, oneW_build, oneW_load, oneW_store, oneW_nilCheck, oneW_binOp, oneW_unOp, oneW_makeFunc, oneW_slice, oneW_fieldAddr, oneW_field, oneW_indexAddr, oneW_index, oneW_lookup, oneW_mapUpdate, oneW_range, oneW_entry, oneW_extract, oneW_call, oneW_alloc, oneW_box, oneW_makeMap, oneW_buildSlice, oneW_convert, Hands, handsV, resultsV, oneOrTuple, argsT, arW_val, ofVal_some, plain_val, cond_true, cond_false,
    aOp_move, aOp_assign, aOp_pick, aOp_build, aOp_load, aOp_store, aOp_nilCheck, aOp_binOp, aOp_unOp, aOp_makeFunc, aOp_slice, aOp_fieldAddr, aOp_field, aOp_indexAddr, aOp_index, aOp_lookup, aOp_mapUpdate, aOp_range, aOp_entry, aOp_extract, aOp_call, aOp_alloc, aOp_box, aOp_makeMap, aOp_buildSlice, aInvoke_func,
    nbeq, nble, nblt, cond_dec, decide_true, decide_false, decide_eq_true_eq, Bool.false_eq_true, Bool.and_true, Bool.true_and, Bool.not_true, Bool.not_false, bq_t, bq_f, ev, evs, evPairs, evOpt, closed, flat, tget_put, Nat.reduceEqDiff, Nat.reduceAdd, Nat.reduceMul, Nat.reduceSub, Nat.reduceLT, Nat.reduceLeDiff, Nat.reduceBEq, reduceIte, if_true, if_false, reduceCtorEq, nth, aCall, aEnter, notYield, aNilCheck, aLoad, partV, isAggD, aFieldAddr, aField, aExtract, b_add, b_sub, b_mul, b_xor, b_eql, b_neq, b_lss, b_leq, b_gtr, b_geq, b_shr, Option.isNone, aBuiltin,
    List.length_cons, List.length_nil, true_implies, false_implies, and_true, true_and, implies_true, forall_const, List.append_nil, List.cons_append, List.nil_append, ASt.get_set, ASt.get_new, ASt.next_set, ASt.next_new, Nat.zero_add, Nat.add_zero, eq_self, ctor_self, ti63, t63_desc, t63_size, ti25, t25_desc, ti22, t22_desc, t22_size, ti59, t59_desc, t59_size, ti60, t60_desc, t60_size, ti61, t61_desc, t61_size, ti3, t3_desc, t3_size, ti40, t40_desc, t40_size, ti33, t33_desc, t33_size, ti9, t9_desc, t9_size, wrow_now, wrow_all, eqnil25, fn17, fn26, fn27, fn28, fn29, fn38, fn39, fn12, fn14, fn15, lenT hla, goInt]
  exact ⟨la.length, rfl, Holds.cnt hla hoka hga⟩
end Go.Proofs.Ytpmpclieclcbdaa

/- The wheel: what Advance's closure does. -/
namespace Go.Proofs.Ytpmpclieclcbdaa
open Go Go.AE

variable {Z : Go.AE.Road}
set_option maxRecDepth 10000

/-- What was gone through is laid over. -/
noncomputable def puts (D : TM) (done : List UE) (p : Nat → Bool) : TM := fun k => match uget done k with
  | some a => if p a then some a else D k
  | none => D k
noncomputable def TM.over (D S : TM) (p : Nat → Bool) : TM := fun k => match S k with
  | some a => if p a then some a else D k
  | none => D k

theorem puts_nil {D : TM} {p : Nat → Bool} : puts D [] p = D := rfl
theorem puts_snoc {D : TM} {done : List UE} {p : Nat → Bool} {x : UE} (h : uget done x.1 = none) : puts D (done ++ [x]) p = if p x.2.1 then (puts D done p).put x.1 x.2.1 else puts D done p := by
  funext k
  unfold puts TM.put
  rw [uget_snoc]
  by_cases e : k = x.1
  · subst e
    rw [h]
    by_cases hp : p x.2.1 <;> simp [hp, h]
  · by_cases hp : p x.2.1 <;> simp [hp, e]

theorem fresh_key {l done : List UE} {ck : Nat} (hok : MapOK l ck) (hsub : ∀ x ∈ done, x ∈ l) {x : UE} (hx : x ∈ l) (hn : x ∉ done) : uget done x.1 = none := by
  rw [uget_none]
  intro y hy e
  exact hn (keys_one (f := fun z : UE => z.1) hok.keys (hsub y hy) hx e ▸ hy)

theorem rangeT {A : ASt} {m ck : Nat} {es : List MapEntry} (hm : A.get m = some (.map es ck)) : aRange E0 59 (.map (some m)) A = .val (.pointer (some ⟨A.next, 0, none⟩)) (A.new (.miter (some m) ck [] ck)) := range_u ti59 t59_desc hm
theorem clearT {A : ASt} {m ck : Nat} {es : List MapEntry} (hm : A.get m = some (.map es ck)) : aClear2 E0 t59 (.map (some m)) A = .val undef (A.set m (.map [] ck)) := by
  simp only [aClear2, t59_desc, aClear, hm]

theorem empty_spec {A : ASt} {m p3 p5 p6 d lf nw : Nat} {S D L : TM} (h3 : A.get p3 = some (.row [.int .u64 (nw : Int)] 1 false)) (h5 : A.get p5 = some (.row [.map (some d)] 1 false)) (h6 : A.get p6 = some (.row [.map (some lf)] 1 false))
    (hm : Holds A m S) (hd : Holds A d D) (hl : Holds A lf L) (e1 : m ≠ d) (e2 : m ≠ lf) (e3 : d ≠ lf) (hb : ∀ b ∈ [m, d, lf, p3, p5, p6], b < A.next) :
    CallW Z Try.prog 28 [.map (some m), .pointer (some ⟨p3, 0, none⟩), .pointer (some ⟨p5, 0, none⟩), .pointer (some ⟨p6, 0, none⟩)] A (fun _ A' => Holds A' m (fun _ => none) ∧ Holds A' d (D.over S fun a => decide (a ≤ nw)) ∧ Holds A' lf (L.over S fun a => !decide (a ≤ nw)) ∧ Fr [m, d, lf] A A') := by
  refine CallW.of_code E0_ok E0_ro fn28 rfl (n := 24) rfl (rs := []) rfl (by simp) (codeW_ok E0_ok E0_ro ?_)
  obtain ⟨es, ck, hes, hok, hg⟩ := hm
  have hmb := hb m (by simp)
  have hdb := hb d (by simp)
  have hlb := hb lf (by simp)
  have h3b := hb p3 (by simp)
  have h5b := hb p5 (by simp)
  have h6b := hb p6 (by simp)
  have ne : ∀ {p : Nat} {c : List Value} {sz : Nat} {tl : Bool}, A.get p = some (.row c sz tl) → ∀ {q : Nat} {T : TM}, Holds A q T → p ≠ q := by
    rintro p c sz tl hp q T ⟨_, _, hq, _⟩ rfl
    rw [hp] at hq
    cases hq
  simp only [oneW_next, tg_eq, tgN_eq, brW_true, brW_false, c_skip, c_ret, c_exit, c_seq, c_cond, condW_b, c_block, c_scope, c_region, c_drawn, c_loop, onw_n, onw_r, onw_e, outb_e, outb_o, outb_n, outb_r, putW_some, putW_none, opsW_arr, opsW_nil, opsW_cons, wanted_none, wanted_some, guardB_some, oneW_next, oneW_move, oneW_assign, oneW_pick, oneW_build, oneW_load, oneW_store, oneW_nilCheck, oneW_binOp, oneW_unOp, oneW_makeFunc, oneW_slice, oneW_fieldAddr, oneW_field, oneW_indexAddr, oneW_index, oneW_lookup, oneW_mapUpdate, oneW_range, oneW_entry, oneW_extract, oneW_call, oneW_alloc, oneW_box, oneW_makeMap, oneW_buildSlice, oneW_convert, Hands, handsV, resultsV, oneOrTuple, argsT, arW_val, ofVal_some, plain_val, cond_true, cond_false,
    aOp_move, aOp_assign, aOp_pick, aOp_build, aOp_load, aOp_store, aOp_nilCheck, aOp_binOp, aOp_unOp, aOp_makeFunc, aOp_slice, aOp_fieldAddr, aOp_field, aOp_indexAddr, aOp_index, aOp_lookup, aOp_mapUpdate, aOp_range, aOp_entry, aOp_extract, aOp_call, aOp_alloc, aOp_box, aOp_makeMap, aOp_buildSlice, aInvoke_func,
    nbeq, nble, nblt, cond_dec, decide_true, decide_false, decide_eq_true_eq, Bool.false_eq_true, Bool.and_true, Bool.true_and, Bool.not_true, Bool.not_false, bq_t, bq_f, ev, evs, evPairs, evOpt, closed, flat, tget_put, Nat.reduceEqDiff, Nat.reduceAdd, Nat.reduceMul, Nat.reduceSub, Nat.reduceLT, Nat.reduceLeDiff, Nat.reduceBEq, reduceIte, if_true, if_false, reduceCtorEq, nth, aCall, aEnter, notYield, aNilCheck, aLoad, partV, isAggD, aFieldAddr, aField, aExtract, b_add, b_sub, b_mul, b_xor, b_eql, b_neq, b_lss, b_leq, b_gtr, b_geq, b_shr, Option.isNone, aBuiltin,
    List.length_cons, List.length_nil, true_implies, false_implies, and_true, true_and, implies_true, forall_const, List.append_nil, List.cons_append, List.nil_append, ASt.get_set, ASt.get_new, ASt.next_set, ASt.next_new, Nat.zero_add, Nat.add_zero, eq_self, ctor_self, ti63, t63_desc, t63_size, ti25, t25_desc, ti22, t22_desc, t22_size, ti59, t59_desc, t59_size, ti60, t60_desc, t60_size, ti61, t61_desc, t61_size, ti3, t3_desc, t3_size, ti40, t40_desc, t40_size, ti33, t33_desc, t33_size, ti9, t9_desc, t9_size, wrow_now, wrow_all, eqnil25, fn17, fn26, fn27, fn28, fn29, fn38, fn39, fn12, fn14, fn15, rangeT hes]
  refine CodeW.mono (Q := fun o => ∃ T' A' done, o = .fr ⟨.exit 0, T', A'⟩ ∧ InMap 8 A.next m ck es done T' A' ∧ (∀ x ∈ es, x ∈ done) ∧ tget T' 0 = .map (some m) ∧ Holds A' d (puts D done fun a => decide (a ≤ nw)) ∧ Holds A' lf (puts L done fun a => !decide (a ≤ nw)) ∧ Fr [m, d, lf] A A') ?_ ?_
  · refine CodeW.mapLoop (it := 8) (r := A.next) (m := m) (ck := ck) (l := es) (J := fun done T A' => tget T 0 = .map (some m) ∧ tget T 1 = .pointer (some ⟨p3, 0, none⟩) ∧ tget T 2 = .pointer (some ⟨p5, 0, none⟩) ∧ tget T 3 = .pointer (some ⟨p6, 0, none⟩) ∧ Holds A' d (puts D done fun a => decide (a ≤ nw)) ∧ Holds A' lf (puts L done fun a => !decide (a ≤ nw)) ∧ Fr [m, d, lf] A A') ?_ ?_ ?_
    · rintro done T A1 hi ⟨t0, t1, t2, t3, hd1, hl1, f1⟩
      refine codeW_ok E0_ok E0_ro ?_
      have g3 : A1.get p3 = _ := (f1.get p3 h3b (by simp [ne h3 ⟨es, ck, hes, hok, hg⟩, ne h3 hd, ne h3 hl])).trans h3
      have g5 : A1.get p5 = _ := (f1.get p5 h5b (by simp [ne h5 ⟨es, ck, hes, hok, hg⟩, ne h5 hd, ne h5 hl])).trans h5
      have g6 : A1.get p6 = _ := (f1.get p6 h6b (by simp [ne h6 ⟨es, ck, hes, hok, hg⟩, ne h6 hd, ne h6 hl])).trans h6
      have hit := hi.it
      simp only [oneW_next, tg_eq, tgN_eq, brW_true, brW_false, c_skip, c_ret, c_exit, c_seq, c_cond, condW_b, c_block, c_scope, c_region, c_drawn, c_loop, onw_n, onw_r, onw_e, outb_e, outb_o, outb_n, outb_r, putW_some, putW_none, opsW_arr, opsW_nil, opsW_cons, wanted_none, wanted_some, guardB_some, oneW_next, oneW_move, oneW_assign, oneW_pick, oneW_build, oneW_load, oneW_store, oneW_nilCheck, oneW_binOp, oneW_unOp, oneW_makeFunc, oneW_slice, oneW_fieldAddr, oneW_field, oneW_indexAddr, oneW_index, oneW_lookup, oneW_mapUpdate, oneW_range, oneW_entry, oneW_extract, oneW_call, oneW_alloc, oneW_box, oneW_makeMap, oneW_buildSlice, oneW_convert, Hands, handsV, resultsV, oneOrTuple, argsT, arW_val, ofVal_some, plain_val, cond_true, cond_false,
    aOp_move, aOp_assign, aOp_pick, aOp_build, aOp_load, aOp_store, aOp_nilCheck, aOp_binOp, aOp_unOp, aOp_makeFunc, aOp_slice, aOp_fieldAddr, aOp_field, aOp_indexAddr, aOp_index, aOp_lookup, aOp_mapUpdate, aOp_range, aOp_entry, aOp_extract, aOp_call, aOp_alloc, aOp_box, aOp_makeMap, aOp_buildSlice, aInvoke_func,
    nbeq, nble, nblt, cond_dec, decide_true, decide_false, decide_eq_true_eq, Bool.false_eq_true, Bool.and_true, Bool.true_and, Bool.not_true, Bool.not_false, bq_t, bq_f, ev, evs, evPairs, evOpt, closed, flat, tget_put, Nat.reduceEqDiff, Nat.reduceAdd, Nat.reduceMul, Nat.reduceSub, Nat.reduceLT, Nat.reduceLeDiff, Nat.reduceBEq, reduceIte, if_true, if_false, reduceCtorEq, nth, aCall, aEnter, notYield, aNilCheck, aLoad, partV, isAggD, aFieldAddr, aField, aExtract, b_add, b_sub, b_mul, b_xor, b_eql, b_neq, b_lss, b_leq, b_gtr, b_geq, b_shr, Option.isNone, aBuiltin,
    List.length_cons, List.length_nil, true_implies, false_implies, and_true, true_and, implies_true, forall_const, List.append_nil, List.cons_append, List.nil_append, ASt.get_set, ASt.get_new, ASt.next_set, ASt.next_new, Nat.zero_add, Nat.add_zero, eq_self, ctor_self, ti63, t63_desc, t63_size, ti25, t25_desc, ti22, t22_desc, t22_size, ti59, t59_desc, t59_size, ti60, t60_desc, t60_size, ti61, t61_desc, t61_size, ti3, t3_desc, t3_size, ti40, t40_desc, t40_size, ti33, t33_desc, t33_size, ti9, t9_desc, t9_size, wrow_now, wrow_all, eqnil25, fn17, fn26, fn27, fn28, fn29, fn38, fn39, fn12, fn14, fn15, hit]
      refine nextV_u hok hi.sub hi.iter hi.map (fun x hx hn => ?_) (fun hall => ?_)
      · have hkey := fresh_key hok hi.sub hx hn
        obtain ⟨ld, ckd, hld, hokd, hgd⟩ := hd1
        obtain ⟨ll, ckl, hll, hokl, hgl⟩ := hl1
        have hent := entry_u (A := A1.set A.next (.miter (some m) ck ((done ++ [x]).map (·.2.2)) ck)) (r := A.next) (m := m) hok hx (by rw [ASt.get_set, if_pos rfl]) (by rw [ASt.get_set, if_neg (by omega)]; exact hi.map)
        have g3' : (A1.set A.next (.miter (some m) ck ((done ++ [x]).map (·.2.2)) ck)).get p3 = some (.row [.int .u64 (nw : Int)] 1 false) := by rw [ASt.get_set, if_neg (by omega)]; exact g3
        have g5' : (A1.set A.next (.miter (some m) ck ((done ++ [x]).map (·.2.2)) ck)).get p5 = some (.row [.map (some d)] 1 false) := by rw [ASt.get_set, if_neg (by omega)]; exact g5
        have g6' : (A1.set A.next (.miter (some m) ck ((done ++ [x]).map (·.2.2)) ck)).get p6 = some (.row [.map (some lf)] 1 false) := by rw [ASt.get_set, if_neg (by omega)]; exact g6
        have gd' : (A1.set A.next (.miter (some m) ck ((done ++ [x]).map (·.2.2)) ck)).get d = some (.map (uEnts ld) ckd) := by rw [ASt.get_set, if_neg (by omega)]; exact hld
        have gl' : (A1.set A.next (.miter (some m) ck ((done ++ [x]).map (·.2.2)) ck)).get lf = some (.map (uEnts ll) ckl) := by rw [ASt.get_set, if_neg (by omega)]; exact hll
        have gr' : (A1.set A.next (.miter (some m) ck ((done ++ [x]).map (·.2.2)) ck)).get A.next = some (.miter (some m) ck ((done ++ [x]).map (·.2.2)) ck) := by rw [ASt.get_set, if_pos rfl]
        have gm' : (A1.set A.next (.miter (some m) ck ((done ++ [x]).map (·.2.2)) ck)).get m = A1.get m := by rw [ASt.get_set, if_neg (by omega)]
        have fb : Fr [m, d, lf] A (A1.set A.next (.miter (some m) ck ((done ++ [x]).map (·.2.2)) ck)) := ⟨f1.next, fun b hb hn => by rw [ASt.get_set, if_neg (by omega)]; exact f1.get b hb hn⟩
        have nx1 := f1.next
        generalize A1.set A.next (.miter (some m) ck ((done ++ [x]).map (·.2.2)) ck) = B at *
        have hud := updateT gd' x.1 x.2.1
        have hul := updateT gl' x.1 x.2.1
        simp only [oneW_next, tg_eq, tgN_eq, brW_true, brW_false, c_skip, c_ret, c_exit, c_seq, c_cond, condW_b, c_block, c_scope, c_region, c_drawn, c_loop, onw_n, onw_r, onw_e, outb_e, outb_o, outb_n, outb_r, putW_some, putW_none, opsW_arr, opsW_nil, opsW_cons, wanted_none, wanted_some, guardB_some, oneW_next, oneW_move, oneW_assign, oneW_pick, oneW_build, oneW_load, oneW_store, oneW_nilCheck, oneW_binOp, oneW_unOp, oneW_makeFunc, oneW_slice, oneW_fieldAddr, oneW_field, oneW_indexAddr, oneW_index, oneW_lookup, oneW_mapUpdate, oneW_range, oneW_entry, oneW_extract, oneW_call, oneW_alloc, oneW_box, oneW_makeMap, oneW_buildSlice, oneW_convert, Hands, handsV, resultsV, oneOrTuple, argsT, arW_val, ofVal_some, plain_val, cond_true, cond_false,
    aOp_move, aOp_assign, aOp_pick, aOp_build, aOp_load, aOp_store, aOp_nilCheck, aOp_binOp, aOp_unOp, aOp_makeFunc, aOp_slice, aOp_fieldAddr, aOp_field, aOp_indexAddr, aOp_index, aOp_lookup, aOp_mapUpdate, aOp_range, aOp_entry, aOp_extract, aOp_call, aOp_alloc, aOp_box, aOp_makeMap, aOp_buildSlice, aInvoke_func,
    nbeq, nble, nblt, cond_dec, decide_true, decide_false, decide_eq_true_eq, Bool.false_eq_true, Bool.and_true, Bool.true_and, Bool.not_true, Bool.not_false, bq_t, bq_f, ev, evs, evPairs, evOpt, closed, flat, tget_put, Nat.reduceEqDiff, Nat.reduceAdd, Nat.reduceMul, Nat.reduceSub, Nat.reduceLT, Nat.reduceLeDiff, Nat.reduceBEq, reduceIte, if_true, if_false, reduceCtorEq, nth, aCall, aEnter, notYield, aNilCheck, aLoad, partV, isAggD, aFieldAddr, aField, aExtract, b_add, b_sub, b_mul, b_xor, b_eql, b_neq, b_lss, b_leq, b_gtr, b_geq, b_shr, Option.isNone, aBuiltin,
    List.length_cons, List.length_nil, true_implies, false_implies, and_true, true_and, implies_true, forall_const, List.append_nil, List.cons_append, List.nil_append, ASt.get_set, ASt.get_new, ASt.next_set, ASt.next_new, Nat.zero_add, Nat.add_zero, eq_self, ctor_self, ti63, t63_desc, t63_size, ti25, t25_desc, ti22, t22_desc, t22_size, ti59, t59_desc, t59_size, ti60, t60_desc, t60_size, ti61, t61_desc, t61_size, ti3, t3_desc, t3_size, ti40, t40_desc, t40_size, ti33, t33_desc, t33_size, ti9, t9_desc, t9_size, wrow_now, wrow_all, eqnil25, fn17, fn26, fn27, fn28, fn29, fn38, fn39, fn12, fn14, fn15, hit, hent, t1, t2, t3, g3']
        refine brW_dec (fun hle => ?_) (fun hle => ?_)
        · have hle' : x.2.1 ≤ nw := by omega
          simp only [oneW_next, tg_eq, tgN_eq, brW_true, brW_false, c_skip, c_ret, c_exit, c_seq, c_cond, condW_b, c_block, c_scope, c_region, c_drawn, c_loop, onw_n, onw_r, onw_e, outb_e, outb_o, outb_n, outb_r, putW_some, putW_none, opsW_arr, opsW_nil, opsW_cons, wanted_none, wanted_some, guardB_some, oneW_next, oneW_move, oneW_assign, oneW_pick, oneW_build, oneW_load, oneW_store, oneW_nilCheck, oneW_binOp, oneW_unOp, oneW_makeFunc, oneW_slice, oneW_fieldAddr, oneW_field, oneW_indexAddr, oneW_index, oneW_lookup, oneW_mapUpdate, oneW_range, oneW_entry, oneW_extract, oneW_call, oneW_alloc, oneW_box, oneW_makeMap, oneW_buildSlice, oneW_convert, Hands, handsV, resultsV, oneOrTuple, argsT, arW_val, ofVal_some, plain_val, cond_true, cond_false,
    aOp_move, aOp_assign, aOp_pick, aOp_build, aOp_load, aOp_store, aOp_nilCheck, aOp_binOp, aOp_unOp, aOp_makeFunc, aOp_slice, aOp_fieldAddr, aOp_field, aOp_indexAddr, aOp_index, aOp_lookup, aOp_mapUpdate, aOp_range, aOp_entry, aOp_extract, aOp_call, aOp_alloc, aOp_box, aOp_makeMap, aOp_buildSlice, aInvoke_func,
    nbeq, nble, nblt, cond_dec, decide_true, decide_false, decide_eq_true_eq, Bool.false_eq_true, Bool.and_true, Bool.true_and, Bool.not_true, Bool.not_false, bq_t, bq_f, ev, evs, evPairs, evOpt, closed, flat, tget_put, Nat.reduceEqDiff, Nat.reduceAdd, Nat.reduceMul, Nat.reduceSub, Nat.reduceLT, Nat.reduceLeDiff, Nat.reduceBEq, reduceIte, if_true, if_false, reduceCtorEq, nth, aCall, aEnter, notYield, aNilCheck, aLoad, partV, isAggD, aFieldAddr, aField, aExtract, b_add, b_sub, b_mul, b_xor, b_eql, b_neq, b_lss, b_leq, b_gtr, b_geq, b_shr, Option.isNone, aBuiltin,
    List.length_cons, List.length_nil, true_implies, false_implies, and_true, true_and, implies_true, forall_const, List.append_nil, List.cons_append, List.nil_append, ASt.get_set, ASt.get_new, ASt.next_set, ASt.next_new, Nat.zero_add, Nat.add_zero, eq_self, ctor_self, ti63, t63_desc, t63_size, ti25, t25_desc, ti22, t22_desc, t22_size, ti59, t59_desc, t59_size, ti60, t60_desc, t60_size, ti61, t61_desc, t61_size, ti3, t3_desc, t3_size, ti40, t40_desc, t40_size, ti33, t33_desc, t33_size, ti9, t9_desc, t9_size, wrow_now, wrow_all, eqnil25, fn17, fn26, fn27, fn28, fn29, fn38, fn39, fn12, fn14, fn15, t1, t2, t3, g5', hud]
          refine ⟨x, hx, hn, hi.step hx hn (by simp only [tget_put, Nat.reduceEqDiff, if_false, reduceIte]) (by rw [ASt.get_set, if_neg (by omega)]; exact gr') (by rw [ASt.get_set, if_neg e1]; exact gm'), ?_, ?_, ?_, ?_⟩
          · exact t0
          · refine ⟨_, _, by rw [ASt.get_set, if_pos rfl], uput_ok hokd, fun k => ?_⟩
            rw [uget_uput, hgd, puts_snoc hkey]
            simp only [hle', decide_true, if_true]
            rfl
          · refine ⟨ll, ckl, by rw [ASt.get_set, if_neg (Ne.symm e3)]; exact gl', hokl, fun k => ?_⟩
            rw [hgl, puts_snoc hkey]
            simp only [hle', decide_true, Bool.not_true, Bool.false_eq_true, if_false]
          · exact ⟨fb.next, fun b hb hn => by rw [ASt.get_set, if_neg (by rintro rfl; simp at hn)]; exact fb.get b hb hn⟩
        · have hle' : ¬ x.2.1 ≤ nw := by omega
          simp only [oneW_next, tg_eq, tgN_eq, brW_true, brW_false, c_skip, c_ret, c_exit, c_seq, c_cond, condW_b, c_block, c_scope, c_region, c_drawn, c_loop, onw_n, onw_r, onw_e, outb_e, outb_o, outb_n, outb_r, putW_some, putW_none, opsW_arr, opsW_nil, opsW_cons, wanted_none, wanted_some, guardB_some, oneW_next, oneW_move, oneW_assign, oneW_pick, oneW_build, oneW_load, oneW_store, oneW_nilCheck, oneW_binOp, oneW_unOp, oneW_makeFunc, oneW_slice, oneW_fieldAddr, oneW_field, oneW_indexAddr, oneW_index, oneW_lookup, oneW_mapUpdate, oneW_range, oneW_entry, oneW_extract, oneW_call, oneW_alloc, oneW_box, oneW_makeMap, oneW_buildSlice, oneW_convert, Hands, handsV, resultsV, oneOrTuple, argsT, arW_val, ofVal_some, plain_val, cond_true, cond_false,
    aOp_move, aOp_assign, aOp_pick, aOp_build, aOp_load, aOp_store, aOp_nilCheck, aOp_binOp, aOp_unOp, aOp_makeFunc, aOp_slice, aOp_fieldAddr, aOp_field, aOp_indexAddr, aOp_index, aOp_lookup, aOp_mapUpdate, aOp_range, aOp_entry, aOp_extract, aOp_call, aOp_alloc, aOp_box, aOp_makeMap, aOp_buildSlice, aInvoke_func,
    nbeq, nble, nblt, cond_dec, decide_true, decide_false, decide_eq_true_eq, Bool.false_eq_true, Bool.and_true, Bool.true_and, Bool.not_true, Bool.not_false, bq_t, bq_f, ev, evs, evPairs, evOpt, closed, flat, tget_put, Nat.reduceEqDiff, Nat.reduceAdd, Nat.reduceMul, Nat.reduceSub, Nat.reduceLT, Nat.reduceLeDiff, Nat.reduceBEq, reduceIte, if_true, if_false, reduceCtorEq, nth, aCall, aEnter, notYield, aNilCheck, aLoad, partV, isAggD, aFieldAddr, aField, aExtract, b_add, b_sub, b_mul, b_xor, b_eql, b_neq, b_lss, b_leq, b_gtr, b_geq, b_shr, Option.isNone, aBuiltin,
    List.length_cons, List.length_nil, true_implies, false_implies, and_true, true_and, implies_true, forall_const, List.append_nil, List.cons_append, List.nil_append, ASt.get_set, ASt.get_new, ASt.next_set, ASt.next_new, Nat.zero_add, Nat.add_zero, eq_self, ctor_self, ti63, t63_desc, t63_size, ti25, t25_desc, ti22, t22_desc, t22_size, ti59, t59_desc, t59_size, ti60, t60_desc, t60_size, ti61, t61_desc, t61_size, ti3, t3_desc, t3_size, ti40, t40_desc, t40_size, ti33, t33_desc, t33_size, ti9, t9_desc, t9_size, wrow_now, wrow_all, eqnil25, fn17, fn26, fn27, fn28, fn29, fn38, fn39, fn12, fn14, fn15, t1, t2, t3, g6', hul]
          refine ⟨x, hx, hn, hi.step hx hn (by simp only [tget_put, Nat.reduceEqDiff, if_false, reduceIte]) (by rw [ASt.get_set, if_neg (by omega)]; exact gr') (by rw [ASt.get_set, if_neg e2]; exact gm'), ?_, ?_, ?_, ?_⟩
          · exact t0
          · refine ⟨ld, ckd, by rw [ASt.get_set, if_neg e3]; exact gd', hokd, fun k => ?_⟩
            rw [hgd, puts_snoc hkey]
            simp only [hle', decide_false, Bool.false_eq_true, if_false]
          · refine ⟨_, _, by rw [ASt.get_set, if_pos rfl], uput_ok hokl, fun k => ?_⟩
            rw [uget_uput, hgl, puts_snoc hkey]
            simp only [hle', decide_false, Bool.not_false, if_true]
            rfl
          · exact ⟨fb.next, fun b hb hn => by rw [ASt.get_set, if_neg (by rintro rfl; simp at hn)]; exact fb.get b hb hn⟩
      · simp only [oneW_next, tg_eq, tgN_eq, brW_true, brW_false, c_skip, c_ret, c_exit, c_seq, c_cond, condW_b, c_block, c_scope, c_region, c_drawn, c_loop, onw_n, onw_r, onw_e, outb_e, outb_o, outb_n, outb_r, putW_some, putW_none, opsW_arr, opsW_nil, opsW_cons, wanted_none, wanted_some, guardB_some, oneW_next, oneW_move, oneW_assign, oneW_pick, oneW_build, oneW_load, oneW_store, oneW_nilCheck, oneW_binOp, oneW_unOp, oneW_makeFunc, oneW_slice, oneW_fieldAddr, oneW_field, oneW_indexAddr, oneW_index, oneW_lookup, oneW_mapUpdate, oneW_range, oneW_entry, oneW_extract, oneW_call, oneW_alloc, oneW_box, oneW_makeMap, oneW_buildSlice, oneW_convert, Hands, handsV, resultsV, oneOrTuple, argsT, arW_val, ofVal_some, plain_val, cond_true, cond_false,
    aOp_move, aOp_assign, aOp_pick, aOp_build, aOp_load, aOp_store, aOp_nilCheck, aOp_binOp, aOp_unOp, aOp_makeFunc, aOp_slice, aOp_fieldAddr, aOp_field, aOp_indexAddr, aOp_index, aOp_lookup, aOp_mapUpdate, aOp_range, aOp_entry, aOp_extract, aOp_call, aOp_alloc, aOp_box, aOp_makeMap, aOp_buildSlice, aInvoke_func,
    nbeq, nble, nblt, cond_dec, decide_true, decide_false, decide_eq_true_eq, Bool.false_eq_true, Bool.and_true, Bool.true_and, Bool.not_true, Bool.not_false, bq_t, bq_f, ev, evs, evPairs, evOpt, closed, flat, tget_put, Nat.reduceEqDiff, Nat.reduceAdd, Nat.reduceMul, Nat.reduceSub, Nat.reduceLT, Nat.reduceLeDiff, Nat.reduceBEq, reduceIte, if_true, if_false, reduceCtorEq, nth, aCall, aEnter, notYield, aNilCheck, aLoad, partV, isAggD, aFieldAddr, aField, aExtract, b_add, b_sub, b_mul, b_xor, b_eql, b_neq, b_lss, b_leq, b_gtr, b_geq, b_shr, Option.isNone, aBuiltin,
    List.length_cons, List.length_nil, true_implies, false_implies, and_true, true_and, implies_true, forall_const, List.append_nil, List.cons_append, List.nil_append, ASt.get_set, ASt.get_new, ASt.next_set, ASt.next_new, Nat.zero_add, Nat.add_zero, eq_self, ctor_self, ti63, t63_desc, t63_size, ti25, t25_desc, ti22, t22_desc, t22_size, ti59, t59_desc, t59_size, ti60, t60_desc, t60_size, ti61, t61_desc, t61_size, ti3, t3_desc, t3_size, ti40, t40_desc, t40_size, ti33, t33_desc, t33_size, ti9, t9_desc, t9_size, wrow_now, wrow_all, eqnil25, fn17, fn26, fn27, fn28, fn29, fn38, fn39, fn12, fn14, fn15]
        refine ⟨_, _, done, rfl, ⟨?_, hi.iter, hi.map, hi.sub, hi.nodup⟩, hall, ?_, hd1, hl1, f1⟩
        · simp only [tget_put, Nat.reduceEqDiff, if_false, reduceIte]; exact hit
        · simp only [tget_put, Nat.reduceEqDiff, if_false, reduceIte]; exact t0
    · refine ⟨rfl, by rw [ASt.get_new, if_pos rfl]; rfl, by rw [ASt.get_new, if_neg (by omega)]; exact hes, by simp, .nil⟩
    · refine ⟨rfl, rfl, rfl, rfl, hd.congr (by rw [ASt.get_new, if_neg (by omega)]), hl.congr (by rw [ASt.get_new, if_neg (by omega)]), Nat.le_succ _, fun b hb hn => by rw [ASt.get_new, if_neg (by omega)]⟩
  · rintro o ⟨T', A', done, rfl, hi, hall, t0, hd1, hl1, f1⟩
    have hck := hi.map
    simp only [oneW_next, tg_eq, tgN_eq, brW_true, brW_false, c_skip, c_ret, c_exit, c_seq, c_cond, condW_b, c_block, c_scope, c_region, c_drawn, c_loop, onw_n, onw_r, onw_e, outb_e, outb_o, outb_n, outb_r, putW_some, putW_none, opsW_arr, opsW_nil, opsW_cons, wanted_none, wanted_some, guardB_some, oneW_next, oneW_move, oneW_assign, oneW_pick, oneW_build, oneW_load, oneW_store, oneW_nilCheck, oneW_binOp, oneW_unOp, oneW_makeFunc, oneW_slice, oneW_fieldAddr, oneW_field, oneW_indexAddr, oneW_index, oneW_lookup, oneW_mapUpdate, oneW_range, oneW_entry, oneW_extract, oneW_call, oneW_alloc, oneW_box, oneW_makeMap, oneW_buildSlice, oneW_convert, Hands, handsV, resultsV, oneOrTuple, argsT, arW_val, ofVal_some, plain_val, cond_true, cond_false,
    aOp_move, aOp_assign, aOp_pick, aOp_build, aOp_load, aOp_store, aOp_nilCheck, aOp_binOp, aOp_unOp, aOp_makeFunc, aOp_slice, aOp_fieldAddr, aOp_field, aOp_indexAddr, aOp_index, aOp_lookup, aOp_mapUpdate, aOp_range, aOp_entry, aOp_extract, aOp_call, aOp_alloc, aOp_box, aOp_makeMap, aOp_buildSlice, aInvoke_func,
    nbeq, nble, nblt, cond_dec, decide_true, decide_false, decide_eq_true_eq, Bool.false_eq_true, Bool.and_true, Bool.true_and, Bool.not_true, Bool.not_false, bq_t, bq_f, ev, evs, evPairs, evOpt, closed, flat, tget_put, Nat.reduceEqDiff, Nat.reduceAdd, Nat.reduceMul, Nat.reduceSub, Nat.reduceLT, Nat.reduceLeDiff, Nat.reduceBEq, reduceIte, if_true, if_false, reduceCtorEq, nth, aCall, aEnter, notYield, aNilCheck, aLoad, partV, isAggD, aFieldAddr, aField, aExtract, b_add, b_sub, b_mul, b_xor, b_eql, b_neq, b_lss, b_leq, b_gtr, b_geq, b_shr, Option.isNone, aBuiltin,
    List.length_cons, List.length_nil, true_implies, false_implies, and_true, true_and, implies_true, forall_const, List.append_nil, List.cons_append, List.nil_append, ASt.get_set, ASt.get_new, ASt.next_set, ASt.next_new, Nat.zero_add, Nat.add_zero, eq_self, ctor_self, ti63, t63_desc, t63_size, ti25, t25_desc, ti22, t22_desc, t22_size, ti59, t59_desc, t59_size, ti60, t60_desc, t60_size, ti61, t61_desc, t61_size, ti3, t3_desc, t3_size, ti40, t40_desc, t40_size, ti33, t33_desc, t33_size, ti9, t9_desc, t9_size, wrow_now, wrow_all, eqnil25, fn17, fn26, fn27, fn28, fn29, fn38, fn39, fn12, fn14, fn15, t0, clearT hck]
    obtain ⟨hk, hu⟩ := uget_all hok hi.sub hall hi.nodup
    have hov : ∀ (X : TM) (p : Nat → Bool), puts X done p = X.over S p := by
      intro X p
      funext k
      unfold puts TM.over
      rw [hu, hg]
    rw [hov] at hd1 hl1
    refine ⟨⟨[], ck, by rw [ASt.get_set, if_pos rfl]; rfl, ⟨.nil, .nil, by simp⟩, fun k => rfl⟩, hd1.congr (by rw [ASt.get_set, if_neg (Ne.symm e1)]), hl1.congr (by rw [ASt.get_set, if_neg (Ne.symm e2)]), f1.next, fun b hb hn => by rw [ASt.get_set, if_neg (by rintro rfl; simp at hn)]; exact f1.get b hb hn⟩
end Go.Proofs.Ytpmpclieclcbdaa

/- The wheel: where a timer stands when the clock moves. Plain. -/
namespace Go.Proofs.Ytpmpclieclcbdaa
open Go Go.AE

theorem bl_bounds {x : Nat} (h : x < 18446744073709551616) (h0 : x ≠ 0) : 1 ≤ Lib.bitLen x ∧ 2 ^ (Lib.bitLen x - 1) ≤ x ∧ x < 2 ^ Lib.bitLen x := Lib.bitLenAux_bounds 64 x (by omega) h0
theorem bl_lt {x : Nat} (h : x < 18446744073709551616) : x < 2 ^ Lib.bitLen x := by
  by_cases h0 : x = 0
  · subst h0; exact Nat.two_pow_pos _
  · exact (bl_bounds h h0).2.2
theorem bl_eq {x k : Nat} (h : x < 18446744073709551616) (h1 : 2 ^ k ≤ x) (h2 : x < 2 ^ (k + 1)) : Lib.bitLen x = k + 1 := by
  have h0 : x ≠ 0 := by have := Nat.two_pow_pos k; omega
  obtain ⟨b1, b2, b3⟩ := bl_bounds h h0
  have a1 : Lib.bitLen x - 1 < k + 1 := (Nat.pow_lt_pow_iff_right (a := 2) (by omega)).1 (by omega)
  have a2 : k < Lib.bitLen x := (Nat.pow_lt_pow_iff_right (a := 2) (by omega)).1 (by omega)
  omega
theorem bit_top {x t : Nat} (h1 : 2 ^ t ≤ x) (h2 : x < 2 ^ (t + 1)) : x.testBit t = true := by
  cases hb : x.testBit t with
  | true => rfl
  | false =>
    exfalso
    have : x < 2 ^ t := by
      refine Nat.lt_pow_two_of_testBit x fun j hj => ?_
      rcases Nat.eq_or_lt_of_le hj with rfl | hlt
      · exact hb
      · exact Nat.testBit_lt_two_pow (Nat.lt_of_lt_of_le h2 (Nat.pow_le_pow_right (by omega) hlt))
    omega

theorem lt_bit {x y : Nat} (t : Nat) (hx : x.testBit t = false) (hy : y.testBit t = true) (h : ∀ j, t < j → x.testBit j = y.testBit j) : x < y := by
  have e : x / 2 ^ (t + 1) = y / 2 ^ (t + 1) := by
    apply Nat.eq_of_testBit_eq
    intro i
    rw [Nat.testBit_div_two_pow, Nat.testBit_div_two_pow]
    exact h _ (by omega)
  have h1 : x / 2 ^ t = 2 * (x / 2 ^ (t + 1)) := by
    have a : x / 2 ^ t % 2 = 0 := by
      have := hx
      rw [Nat.testBit_eq_decide_div_mod_eq] at this
      have := of_decide_eq_false this
      omega
    have b : x / 2 ^ (t + 1) = x / 2 ^ t / 2 := by rw [Nat.pow_succ, Nat.div_div_eq_div_mul]
    omega
  have h2 : y / 2 ^ t = 2 * (y / 2 ^ (t + 1)) + 1 := by
    have a : y / 2 ^ t % 2 = 1 := by
      have := hy
      rw [Nat.testBit_eq_decide_div_mod_eq] at this
      exact of_decide_eq_true this
    have b : y / 2 ^ (t + 1) = y / 2 ^ t / 2 := by rw [Nat.pow_succ, Nat.div_div_eq_div_mul]
    omega
  have h3 : x / 2 ^ t < y / 2 ^ t := by omega
  exact (Nat.lt_of_not_le fun hle => by have := Nat.div_le_div_right (c := 2 ^ t) hle; omega)

/-- A timer whose level is not left behind stays where it is, and is above the clock. -/
theorem plc_far {now nw a : Nat} (hnow : now < 18446744073709551616) (hnw : nw < 18446744073709551616) (ha : a < 18446744073709551616) (hlt : now < a) (hD : ¬ plc now a < 16 * ((Lib.bitLen (nw ^^^ now) + 3) / 4)) : nw < a ∧ plc nw a = plc now a := by
  have hx : a ^^^ now < 18446744073709551616 := Nat.xor_lt_two_pow (n := 64) (by omega) (by omega)
  have hy : nw ^^^ now < 18446744073709551616 := Nat.xor_lt_two_pow (n := 64) (by omega) (by omega)
  have hx0 : a ^^^ now ≠ 0 := fun e => by
    have : a = now := by
      apply Nat.eq_of_testBit_eq
      intro i
      have := congrArg (fun z => z.testBit i) e
      simp only [Nat.testBit_xor, Nat.zero_testBit] at this
      simpa using this
    omega
  have hlv : (Lib.bitLen (nw ^^^ now) + 3) / 4 ≤ lvl now a := by
    unfold plc at hD
    split at hD
    · rename_i h4; omega
    · rename_i h4
      have : a / 2 ^ (4 * lvl now a) % 16 < 16 := Nat.mod_lt _ (by omega)
      omega
  obtain ⟨b1, b2, b3⟩ := bl_bounds hx hx0
  have by_ := bl_lt hy
  have hst : Lib.bitLen (nw ^^^ now) ≤ Lib.bitLen (a ^^^ now) - 1 := by unfold lvl at hlv; omega
  have hylt : nw ^^^ now < 2 ^ (Lib.bitLen (a ^^^ now) - 1) := Nat.lt_of_lt_of_le by_ (Nat.pow_le_pow_right (by omega) hst)
  obtain ⟨t, ht⟩ : ∃ t, Lib.bitLen (a ^^^ now) = t + 1 := ⟨_, (Nat.sub_add_cancel b1).symm⟩
  rw [ht, Nat.add_sub_cancel] at b2 hylt
  rw [ht] at b3
  have e : a ^^^ nw = (a ^^^ now) ^^^ (nw ^^^ now) := by
    apply Nat.eq_of_testBit_eq
    intro i
    simp only [Nat.testBit_xor]
    cases a.testBit i <;> cases nw.testBit i <;> cases now.testBit i <;> rfl
  have xt := bit_top b2 b3
  have ytz : ∀ j, t ≤ j → (nw ^^^ now).testBit j = false := fun j hj => Nat.testBit_lt_two_pow (Nat.lt_of_lt_of_le hylt (Nat.pow_le_pow_right (by omega) hj))
  have xz : ∀ j, t < j → (a ^^^ now).testBit j = false := fun j hj => Nat.testBit_lt_two_pow (Nat.lt_of_lt_of_le b3 (Nat.pow_le_pow_right (by omega) hj))
  have hbl : Lib.bitLen (a ^^^ nw) = t + 1 := by
    refine bl_eq ?_ ?_ ?_
    · exact Nat.xor_lt_two_pow (n := 64) (by omega) (by omega)
    · refine Nat.ge_two_pow_of_testBit ?_
      rw [e, Nat.testBit_xor, xt, ytz t (Nat.le_refl _)]; rfl
    · rw [e]
      exact Nat.xor_lt_two_pow b3 (Nat.lt_of_lt_of_le hylt (Nat.pow_le_pow_right (by omega) (by omega)))
  have hl : lvl nw a = lvl now a := by unfold lvl; rw [hbl, ht]
  have up : ∀ j, t < j → a.testBit j = now.testBit j := fun j hj => by
    have := xz j hj
    rw [Nat.testBit_xor] at this
    simpa using this
  have upn : ∀ j, t ≤ j → nw.testBit j = now.testBit j := fun j hj => by
    have := ytz j hj
    rw [Nat.testBit_xor] at this
    simpa using this
  rw [Nat.testBit_xor] at xt
  have hat : a.testBit t = true := by
    cases hb : a.testBit t with
    | true => rfl
    | false =>
      rw [hb, Bool.false_xor] at xt
      have := lt_bit t hb xt up
      omega
  rw [hat, Bool.true_xor, Bool.not_eq_true'] at xt
  refine ⟨lt_bit t (by rw [upn t (Nat.le_refl _)]; exact xt) hat fun j hj => by rw [upn j (by omega), up j hj], ?_⟩
  unfold plc
  rw [hl]
end Go.Proofs.Ytpmpclieclcbdaa

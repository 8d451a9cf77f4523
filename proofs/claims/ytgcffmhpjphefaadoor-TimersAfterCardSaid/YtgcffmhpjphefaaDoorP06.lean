/- What the evaluator reads of the program. -/
import Derived.Test.YtgcffmhpjphefaaDoorP05
import Derived.Test.YtgcffmhpjphefaaDoorProg
import Derived.ProofKit
import Derived.Laws.Externs
import Derived.Test.YtgcffmhpjphefaaDoorRows
import Derived.Lib.SmallJoins
import Derived.Deep.Slices
set_option linter.unusedSimpArgs false
set_option linter.unusedVariables false
set_option linter.unusedSectionVars false
namespace Go.Proofs.YtgcffmhpjphefaaDoor
open Go Go.AE
set_option linter.defProp false

/-- The program, as the evaluator reads it. -/
def tab0 : ExtTab := [(32, add64Entry)]
theorem tab0_ok : ExtOK Tryd.prog tab0 := extOK_cons Tryd.f32 Tryd.func32 (by kernel_rfl) (by kernel_rfl) (by kernel_rfl) (by kernel_rfl) ((extOK_nil _))
noncomputable def E0 : Env := envOf Tryd.prog tab0 noHook
theorem E0_ok : EnvOK E0 Tryd.prog := envOf_ok tab0_ok
theorem E0_ro {Z : Go.AE.Road} : RoadRo Z E0 := fun _ _ _ _ _ _ h => by cases h
theorem E0_ron {b : Nat} : E0.ro b = none := rfl
theorem mixed : Tryd.prog.follows .mixedOrders = true := by kernel_rfl

noncomputable def t3 : TIn := match tiOf Tryd.prog 3 with
  | some i => i
  | none => ⟨.bool, 0, 0, none, #[], none⟩
theorem ti3 : E0.ti 3 = some t3 := by kernel_rfl
theorem t3_desc : t3.desc = TypeDesc.int IntKind.i64 := by kernel_rfl
theorem t3_size : t3.size = 1 := by kernel_rfl
theorem t3_zero : t3.zero = some (.int .i64 0) := by kernel_rfl
theorem t3_bytes : t3.bytes = 8 := by kernel_rfl
noncomputable def t4 : TIn := match tiOf Tryd.prog 4 with
  | some i => i
  | none => ⟨.bool, 0, 0, none, #[], none⟩
theorem ti4 : E0.ti 4 = some t4 := by kernel_rfl
theorem t4_desc : t4.desc = TypeDesc.bool := by kernel_rfl
theorem t4_size : t4.size = 1 := by kernel_rfl
theorem t4_zero : t4.zero = some (.bool false) := by kernel_rfl
theorem t4_bytes : t4.bytes = 1 := by kernel_rfl
noncomputable def t9 : TIn := match tiOf Tryd.prog 9 with
  | some i => i
  | none => ⟨.bool, 0, 0, none, #[], none⟩
theorem ti9 : E0.ti 9 = some t9 := by kernel_rfl
theorem t9_desc : t9.desc = TypeDesc.string := by kernel_rfl
theorem t9_size : t9.size = 1 := by kernel_rfl
theorem t9_zero : t9.zero = some (.string ByteArray.empty) := by kernel_rfl
theorem t9_bytes : t9.bytes = 16 := by kernel_rfl
noncomputable def t22 : TIn := match tiOf Tryd.prog 22 with
  | some i => i
  | none => ⟨.bool, 0, 0, none, #[], none⟩
theorem ti22 : E0.ti 22 = some t22 := by kernel_rfl
theorem t22_desc : t22.desc = TypeDesc.int IntKind.u64 := by kernel_rfl
theorem t22_size : t22.size = 1 := by kernel_rfl
theorem t22_zero : t22.zero = some (.int .u64 0) := by kernel_rfl
theorem t22_bytes : t22.bytes = 8 := by kernel_rfl
noncomputable def t2 : TIn := match tiOf Tryd.prog 2 with
  | some i => i
  | none => ⟨.bool, 0, 0, none, #[], none⟩
theorem ti2 : E0.ti 2 = some t2 := by kernel_rfl
theorem t2_desc : t2.desc = TypeDesc.int IntKind.i64 := by kernel_rfl
theorem t2_size : t2.size = 1 := by kernel_rfl
theorem t2_zero : t2.zero = some (.int .i64 0) := by kernel_rfl
theorem t2_bytes : t2.bytes = 8 := by kernel_rfl
noncomputable def t23 : TIn := match tiOf Tryd.prog 23 with
  | some i => i
  | none => ⟨.bool, 0, 0, none, #[], none⟩
theorem ti23 : E0.ti 23 = some t23 := by kernel_rfl
theorem t23_desc : t23.desc = TypeDesc.slice 36 := by kernel_rfl
theorem t23_size : t23.size = 1 := by kernel_rfl
theorem t23_zero : t23.zero = some (.slice none 0 0) := by kernel_rfl
theorem t23_bytes : t23.bytes = 24 := by kernel_rfl
noncomputable def t36 : TIn := match tiOf Tryd.prog 36 with
  | some i => i
  | none => ⟨.bool, 0, 0, none, #[], none⟩
theorem ti36 : E0.ti 36 = some t36 := by kernel_rfl
theorem t36_desc : t36.desc = TypeDesc.struct #[{ name := "Kind", type := 34, offset := 0, embedded := false, tag := "", pkgPath := "", byteOffset := 0 }, { name := "Key", type := 9, offset := 1, embedded := false, tag := "", pkgPath := "", byteOffset := 8 }, { name := "Value", type := 9, offset := 2, embedded := false, tag := "", pkgPath := "", byteOffset := 24 }, { name := "N", type := 2, offset := 3, embedded := false, tag := "", pkgPath := "", byteOffset := 40 }] := by kernel_rfl
theorem t36_size : t36.size = 4 := by kernel_rfl
theorem t36_zero : t36.zero = some (.agg #[.int .i64 0, .string ByteArray.empty, .string ByteArray.empty, .int .i64 0]) := by kernel_rfl
theorem t36_bytes : t36.bytes = 48 := by kernel_rfl
noncomputable def t34 : TIn := match tiOf Tryd.prog 34 with
  | some i => i
  | none => ⟨.bool, 0, 0, none, #[], none⟩
theorem ti34 : E0.ti 34 = some t34 := by kernel_rfl
theorem t34_desc : t34.desc = TypeDesc.int IntKind.i64 := by kernel_rfl
theorem t34_size : t34.size = 1 := by kernel_rfl
theorem t34_zero : t34.zero = some (.int .i64 0) := by kernel_rfl
theorem t34_bytes : t34.bytes = 8 := by kernel_rfl
noncomputable def t25 : TIn := match tiOf Tryd.prog 25 with
  | some i => i
  | none => ⟨.bool, 0, 0, none, #[], none⟩
theorem ti25 : E0.ti 25 = some t25 := by kernel_rfl
theorem t25_desc : t25.desc = TypeDesc.struct #[{ name := "Name", type := 9, offset := 0, embedded := false, tag := "", pkgPath := "", byteOffset := 0 }, { name := "Version", type := 3, offset := 1, embedded := false, tag := "", pkgPath := "", byteOffset := 16 }, { name := "At", type := 22, offset := 2, embedded := false, tag := "", pkgPath := "", byteOffset := 24 }, { name := "Every", type := 22, offset := 3, embedded := false, tag := "", pkgPath := "", byteOffset := 32 }, { name := "Do", type := 23, offset := 4, embedded := false, tag := "", pkgPath := "", byteOffset := 40 }] := by kernel_rfl
theorem t25_size : t25.size = 5 := by kernel_rfl
theorem t25_zero : t25.zero = some (.agg #[.string ByteArray.empty, .int .i64 0, .int .u64 0, .int .u64 0, .slice none 0 0]) := by kernel_rfl
theorem t25_bytes : t25.bytes = 64 := by kernel_rfl
noncomputable def t49 : TIn := match tiOf Tryd.prog 49 with
  | some i => i
  | none => ⟨.bool, 0, 0, none, #[], none⟩
theorem ti49 : E0.ti 49 = some t49 := by kernel_rfl
theorem t49_desc : t49.desc = TypeDesc.array 2 22 := by kernel_rfl
theorem t49_size : t49.size = 2 := by kernel_rfl
theorem t49_zero : t49.zero = some (.agg #[.int .u64 0, .int .u64 0]) := by kernel_rfl
theorem t49_bytes : t49.bytes = 16 := by kernel_rfl
noncomputable def t39 : TIn := match tiOf Tryd.prog 39 with
  | some i => i
  | none => ⟨.bool, 0, 0, none, #[], none⟩
theorem ti39 : E0.ti 39 = some t39 := by kernel_rfl
theorem t39_desc : t39.desc = TypeDesc.int IntKind.i64 := by kernel_rfl
theorem t39_size : t39.size = 1 := by kernel_rfl
theorem t39_zero : t39.zero = some (.int .i64 0) := by kernel_rfl
theorem t39_bytes : t39.bytes = 8 := by kernel_rfl
theorem fn3 : E0.fn 3 = some Tryd.f3 := by kernel_rfl
theorem fn5 : E0.fn 5 = some Tryd.f5 := by kernel_rfl
theorem fn6 : E0.fn 6 = some Tryd.f6 := by kernel_rfl
theorem fn7 : E0.fn 7 = some Tryd.f7 := by kernel_rfl
theorem fn8 : E0.fn 8 = some Tryd.f8 := by kernel_rfl
theorem fn9 : E0.fn 9 = some Tryd.f9 := by kernel_rfl
theorem fn17 : E0.fn 17 = some Tryd.f17 := by kernel_rfl
theorem fn18 : E0.fn 18 = some Tryd.f18 := by kernel_rfl
theorem fn19 : E0.fn 19 = some Tryd.f19 := by kernel_rfl
theorem fn20 : E0.fn 20 = some Tryd.f20 := by kernel_rfl
theorem fn31 : E0.fn 31 = some Tryd.f31 := by kernel_rfl
theorem fn32 : E0.fn 32 = none := by kernel_rfl
theorem fn33 : E0.fn 33 = some Tryd.f33 := by kernel_rfl
def w_0 := And.intro @ti3 (And.intro @t3_desc (And.intro @t3_size (And.intro @t3_zero (And.intro @ti4 (And.intro @t4_desc (And.intro @t4_size (And.intro @t4_zero (And.intro @ti9 (And.intro @t9_desc (And.intro @t9_size (And.intro @t9_zero (And.intro @ti22 (And.intro @t22_desc (And.intro @t22_size (And.intro @t22_zero (And.intro @ti2 (And.intro @t2_desc (And.intro @t2_size (And.intro @t2_zero (And.intro @ti23 (And.intro @t23_desc (And.intro @t23_size (And.intro @t23_zero (And.intro @ti36 (And.intro @t36_desc (And.intro @t36_size (And.intro @t36_zero (And.intro @ti34 (And.intro @t34_desc (And.intro @t34_size (And.intro @t34_zero (And.intro @ti25 (And.intro @t25_desc (And.intro @t25_size (And.intro @t25_zero (And.intro @ti49 (And.intro @t49_desc (And.intro @t49_size (And.intro @t49_zero (And.intro @ti39 (And.intro @t39_desc (And.intro @t39_size (@t39_zero)))))))))))))))))))))))))))))))))))))))))))
def w_a := And.intro @fn3 (And.intro @fn5 (And.intro @fn6 (And.intro @fn7 (And.intro @fn8 (And.intro @fn9 (And.intro @fn17 (And.intro @fn18 (And.intro @fn19 (And.intro @fn20 (And.intro @fn31 (And.intro @fn32 (@fn33))))))))))))
end Go.Proofs.YtgcffmhpjphefaaDoor

/- Steps: their cells; a step is itself. -/
namespace Go.Proofs.YtgcffmhpjphefaaDoor
open Go Go.AE
set_option maxRecDepth 10000
set_option maxHeartbeats 4000000

/-- A step. -/
structure StepD where
  kind : Int
  key : ByteArray
  val : ByteArray
  n : Int
def scell (y : StepD) : List Value := [.int .i64 y.kind, .string y.key, .string y.val, .int .i64 y.n]
/-- Steps in a slice. -/
abbrev Steps (E : Env) (A : ASt) (S : Nat → Prop) (v : Value) (l : List StepD) : Prop := SlAt E A S 4 v (l.map scell)
theorem scell_len {l : List StepD} : ∀ x ∈ l.map scell, x.length = 4 := by
  intro x hx
  obtain ⟨y, _, rfl⟩ := List.mem_map.1 hx
  rfl
theorem scell_sg : ∀ {l : List StepD}, singles (l.map scell).flatten = true
  | [] => rfl
  | y :: l => by
    rw [List.map_cons, List.flatten_cons]
    exact scell_sg (l := l)

theorem pb {α β : Type} {P : Program} {f : α → Sem β} : ∀ {m : Sem α} {a : α}, pureRun P m = some a → pureRun P (m >>= f) = pureRun P (f a) := by
  intro m
  induction m with
  | pure x => intro a h; cases h; rfl
  | program k ih => intro a h; exact ih P h
  | mark x k ih => intro a h; exact ih h
  | _ => intro a h; cases h
theorem beqB {k : ByteArray} : (k == k) = true := by
  first | exact beq_self_eq_true k | (cases k; simp [BEq.beq]; done) | (show (k.data == k.data) = true; exact beq_self_eq_true _) | (cases k; exact beq_self_eq_true _) | (obtain ⟨d⟩ := k; unfold BEq.beq ByteArray.instBEq; simp [ByteArray.instBEq.beq])
theorem es9 {k : ByteArray} {d : Nat} : pureRun Tryd.prog (Op.equalIn (d + 1) 9 (.string k) (.string k)) = some true := by
  unfold Op.equalIn
  rw [pb (a := .string) (by kernel_rfl)]
  show some (k == k) = some true
  rw [beqB]
theorem ei2 {a : Int} {d : Nat} : pureRun Tryd.prog (Op.equalIn (d + 1) 2 (.int .i64 a) (.int .i64 a)) = some true := by
  unfold Op.equalIn
  rw [pb (a := .int .i64) (by kernel_rfl)]
  show some (a == a) = some true
  simp
theorem ei34 {a : Int} {d : Nat} : pureRun Tryd.prog (Op.equalIn (d + 1) 34 (.int .i64 a) (.int .i64 a)) = some true := by
  unfold Op.equalIn
  rw [pb (a := .int .i64) (by kernel_rfl)]
  show some (a == a) = some true
  simp
theorem eqStep {k s u n} : pureRun Tryd.prog (Op.equal 36 (.agg #[.int .i64 k, .string s, .string u, .int .i64 n]) (.agg #[.int .i64 k, .string s, .string u, .int .i64 n])) = some true := by
  show pureRun Tryd.prog (Op.equalIn (9999 + 1) 36 (.agg #[.int .i64 k, .string s, .string u, .int .i64 n]) (.agg #[.int .i64 k, .string s, .string u, .int .i64 n])) = some true
  unfold Op.equalIn
  have hd := t36_desc
  rw [pb (a := t36.desc) (by kernel_rfl)]
  rw [hd]
  dsimp only
  rw [pb (m := program) (a := Tryd.prog) rfl]
  have h0 : Tryd.prog.stoodInHeld 36 = false := by kernel_rfl
  rw [h0]
  simp only [Bool.false_eq_true, if_false]
  have hp0 : pureRun Tryd.prog (part 34 #[Value.int .i64 k, .string s, .string u, .int .i64 n] 0) = some (.int .i64 k) := by kernel_rfl
  have hp1 : pureRun Tryd.prog (part 9 #[Value.int .i64 k, .string s, .string u, .int .i64 n] 1) = some (.string s) := by kernel_rfl
  have hp2 : pureRun Tryd.prog (part 9 #[Value.int .i64 k, .string s, .string u, .int .i64 n] 2) = some (.string u) := by kernel_rfl
  have hp3 : pureRun Tryd.prog (part 2 #[Value.int .i64 k, .string s, .string u, .int .i64 n] 3) = some (.int .i64 n) := by kernel_rfl
  simp only [List.forIn_toArray, List.forIn_cons, List.forIn_nil, bind_assoc, pure_bind]
  have n1 : ("Kind" = "_") = False := by simp
  have n2 : ("Key" = "_") = False := by simp
  have n3 : ("Value" = "_") = False := by simp
  have n4 : ("N" = "_") = False := by simp
  simp only [ne_eq, n1, n2, n3, n4, not_false_eq_true, if_true, bind_assoc]
  rw [pb hp0, pb hp0, pb (m := Op.equalIn 9999 34 (.int .i64 k) (.int .i64 k)) (ei34 (d := 9998))]
  simp only [Bool.not_true, Bool.false_eq_true, if_false, pure_bind, bind_assoc]
  rw [pb hp1, pb hp1, pb (m := Op.equalIn 9999 9 (.string s) (.string s)) (es9 (d := 9998))]
  simp only [Bool.not_true, Bool.false_eq_true, if_false, pure_bind, bind_assoc]
  rw [pb hp2, pb hp2, pb (m := Op.equalIn 9999 9 (.string u) (.string u)) (es9 (d := 9998))]
  simp only [Bool.not_true, Bool.false_eq_true, if_false, pure_bind, bind_assoc]
  rw [pb hp3, pb hp3, pb (m := Op.equalIn 9999 2 (.int .i64 n) (.int .i64 n)) (ei2 (d := 9998))]
  simp only [Bool.not_true, Bool.false_eq_true, if_false, pure_bind, bind_assoc]
  rfl
theorem neqStep {xo yo : Operand} {k s u n} : aBin2 E0 .neq 36 xo yo (.agg #[.int .i64 k, .string s, .string u, .int .i64 n]) (.agg #[.int .i64 k, .string s, .string u, .int .i64 n]) = some (.bool false) := by
  have e1 : E0.bin .neq 36 xo yo (.agg #[.int .i64 k, .string s, .string u, .int .i64 n]) (.agg #[.int .i64 k, .string s, .string u, .int .i64 n]) = some (.bool false) := by
    show pureRun Tryd.prog (do eqGuard .neq 36 xo yo (.agg #[.int .i64 k, .string s, .string u, .int .i64 n]) (.agg #[.int .i64 k, .string s, .string u, .int .i64 n]); binOp .neq 36 (.agg #[.int .i64 k, .string s, .string u, .int .i64 n]) (.agg #[.int .i64 k, .string s, .string u, .int .i64 n])) = _
    rw [pb (a := ()) (by kernel_rfl)]
    show pureRun Tryd.prog (do pure (Value.bool (!(← Op.equal 36 (.agg #[.int .i64 k, .string s, .string u, .int .i64 n]) (.agg #[.int .i64 k, .string s, .string u, .int .i64 n]))))) = _
    rw [pb eqStep]
    rfl
  have e2 : closed (.agg #[.int .i64 k, .string s, .string u, .int .i64 n]) = true := rfl
  have e3 : aBin E0 .neq 36 xo yo (.agg #[.int .i64 k, .string s, .string u, .int .i64 n]) (.agg #[.int .i64 k, .string s, .string u, .int .i64 n]) = none := by
    simp [aBin, eqV, ti36, t36_desc]
  simp only [aBin2, e3, e1, e2, Bool.and_self, cond_true]
  rfl
end Go.Proofs.YtgcffmhpjphefaaDoor

/- The calendar. -/
namespace Go.Proofs.YtgcffmhpjphefaaDoor
open Go Go.AE
set_option maxRecDepth 10000
set_option maxHeartbeats 4000000
variable {Z : Go.AE.Road}

/-- How many times, and what is left. -/
def cnt (a e t : Nat) : Nat := if t < a then 0 else if e = 0 then 0 else (t - a) / e
def rst (a e t : Nat) : Nat := if t < a then 0 else if e = 0 then t - a else (t - a) % e
theorem wrap_sub {a b : Nat} (ha : a < 18446744073709551616) (h : b ≤ a) : IntKind.u64.wrap ((a : Int) - (b : Int)) = ((a - b : Nat) : Int) := by
  rw [IntKind.wrap_u64]; omega
theorem wrap_nat {a : Nat} (ha : a < 18446744073709551616) : IntKind.u64.wrap (a : Int) = (a : Int) := by
  rw [IntKind.wrap_u64]; omega
theorem zero49 : aAlloc E0 49 = some (.row [.int .u64 0, .int .u64 0] 2 false, ptrTo) := by
  simp only [aAlloc, w_0]; rfl
theorem bl49_0 : aBuild E0 49 [] = some (.agg #[.int .u64 0, .int .u64 0]) := by kernel_rfl
theorem bl49_1 {x : Int} : aBuild E0 49 [(1, .int .u64 x)] = some (.agg #[.int .u64 0, .int .u64 x]) := by kernel_rfl
theorem bl49_2 {x y : Int} : aBuild E0 49 [(0, .int .u64 x), (1, .int .u64 y)] = some (.agg #[.int .u64 x, .int .u64 y]) := by kernel_rfl
theorem st49 {A : ASt} {b : Nat} {c0 c1 : Value} {tl : Bool} {x y : Int} (h : A.get b = some (.row [c0, c1] 2 tl)) : aStore E0 49 (.pointer (some ⟨b, 0, none⟩)) (.agg #[.int .u64 x, .int .u64 y]) A = some (A.set b (.row [.int .u64 x, .int .u64 y] 2 tl)) := by
  simp only [aStore, h, w_0]; rfl
theorem steps_spec {A : ASt} {a e t : Nat} (ha : a < 18446744073709551616) (he : e < 18446744073709551616) (ht : t < 18446744073709551616) :
    CallW Z Tryd.prog 19 [.int .u64 (a : Int), .int .u64 (e : Int), .int .u64 (t : Int)] A (fun v A' => v = .agg #[.int .u64 ((cnt a e t : Nat) : Int), .int .u64 ((rst a e t : Nat) : Int)] ∧ Fr [] A A') := by
  refine CallW.of_code E0_ok E0_ro fn19 rfl (n := 30) rfl (rs := [.cell 6 49]) rfl (by simp) (codeW_ok E0_ok E0_ro ?_)
  simp only [oneW_next, s_0, s_1, s_2, s_3, s_4, g_0, w_0, w_a, Hands, handsV, resultsV, oneOrTuple, argsT, ev, evs, evPairs, evOpt, closed, flat, nth, aCall, aEnter, notYield, aNilCheck, partV, isAggD, aFieldAddr, aField, aExtract, Option.isNone, aBuiltin, aUn, cond_true, cond_false, cond_dec, if_true, if_false, List.length_cons, List.length_nil, forall_const, implies_true, List.append_nil, List.cons_append, List.nil_append, eq_self, Nat.reduceEqDiff, Nat.reduceAdd, Nat.reduceMul, Nat.reduceSub, Nat.reduceLT, Nat.reduceLeDiff, Nat.reduceBEq, reduceIte, reduceCtorEq, zero49, ptrTo]
  have hg : (A.new (.row [.int .u64 0, .int .u64 0] 2 false)).get A.next = some (.row [.int .u64 0, .int .u64 0] 2 false) := by rw [ASt.get_new, if_pos rfl]
  have hf : Fr [] A (A.new (.row [.int .u64 0, .int .u64 0] 2 false)) := .new
  generalize A.new (.row [.int .u64 0, .int .u64 0] 2 false) = B at hg hf ⊢
  refine brW_dec (fun h => ?_) (fun h => ?_)
  · have hl : t < a := by omega
    have e1 : cnt a e t = 0 := by simp [cnt, hl]
    have e2 : rst a e t = 0 := by simp [rst, hl]
    simp only [oneW_next, s_0, s_1, s_2, s_3, s_4, g_0, w_0, w_a, Hands, handsV, resultsV, oneOrTuple, argsT, ev, evs, evPairs, evOpt, closed, flat, nth, aCall, aEnter, notYield, aNilCheck, partV, isAggD, aFieldAddr, aField, aExtract, Option.isNone, aBuiltin, aUn, cond_true, cond_false, cond_dec, if_true, if_false, List.length_cons, List.length_nil, forall_const, implies_true, List.append_nil, List.cons_append, List.nil_append, eq_self, Nat.reduceEqDiff, Nat.reduceAdd, Nat.reduceMul, Nat.reduceSub, Nat.reduceLT, Nat.reduceLeDiff, Nat.reduceBEq, reduceIte, reduceCtorEq, bl49_0, st49 hg, e1, e2, cut, List.take_succ_cons, List.take_zero, List.drop_zero, Option.some.injEq, Value.agg.injEq, Array.mk.injEq]
    exact ⟨rfl, hf.set (.inr (Nat.le_refl _))⟩
  · have hl : ¬ t < a := by omega
    have e3 := wrap_sub ht (Nat.le_of_not_lt hl)
    simp only [oneW_next, s_0, s_1, s_2, s_3, s_4, g_0, w_0, w_a, Hands, handsV, resultsV, oneOrTuple, argsT, ev, evs, evPairs, evOpt, closed, flat, nth, aCall, aEnter, notYield, aNilCheck, partV, isAggD, aFieldAddr, aField, aExtract, Option.isNone, aBuiltin, aUn, cond_true, cond_false, cond_dec, if_true, if_false, List.length_cons, List.length_nil, forall_const, implies_true, List.append_nil, List.cons_append, List.nil_append, eq_self, Nat.reduceEqDiff, Nat.reduceAdd, Nat.reduceMul, Nat.reduceSub, Nat.reduceLT, Nat.reduceLeDiff, Nat.reduceBEq, reduceIte, reduceCtorEq]
    refine brW_dec (fun h0 => ?_) (fun h0 => ?_)
    · have h0' : e = 0 := by omega
      have e1 : cnt a e t = 0 := by simp [cnt, hl, h0']
      have e2 : rst a e t = t - a := by simp [rst, hl, h0']
      simp only [oneW_next, s_0, s_1, s_2, s_3, s_4, g_0, w_0, w_a, Hands, handsV, resultsV, oneOrTuple, argsT, ev, evs, evPairs, evOpt, closed, flat, nth, aCall, aEnter, notYield, aNilCheck, partV, isAggD, aFieldAddr, aField, aExtract, Option.isNone, aBuiltin, aUn, cond_true, cond_false, cond_dec, if_true, if_false, List.length_cons, List.length_nil, forall_const, implies_true, List.append_nil, List.cons_append, List.nil_append, eq_self, Nat.reduceEqDiff, Nat.reduceAdd, Nat.reduceMul, Nat.reduceSub, Nat.reduceLT, Nat.reduceLeDiff, Nat.reduceBEq, reduceIte, reduceCtorEq, bl49_1, st49 hg, e1, e2, e3, cut, List.take_succ_cons, List.take_zero, List.drop_zero, Option.some.injEq, Value.agg.injEq, Array.mk.injEq]
      exact ⟨rfl, hf.set (.inr (Nat.le_refl _))⟩
    · have h0' : e ≠ 0 := by omega
      have e1 : cnt a e t = (t - a) / e := by simp [cnt, hl, h0']
      have e2 : rst a e t = (t - a) % e := by simp [rst, hl, h0']
      have hq : ∀ xo yo, aBin2 E0 .quo 22 xo yo (.int .u64 ((t - a : Nat) : Int)) (.int .u64 (e : Int)) = some (.int .u64 (((t - a) / e : Nat) : Int)) := fun xo yo => by
        rw [b_quo (by omega)]
        have e4 : ((t - a : Nat) : Int).tdiv (e : Int) = (((t - a) / e : Nat) : Int) := rfl
        rw [e4, wrap_nat (Nat.lt_of_le_of_lt (Nat.div_le_self _ _) (by omega))]
      have hr : ∀ xo yo, aBin2 E0 .rem 22 xo yo (.int .u64 ((t - a : Nat) : Int)) (.int .u64 (e : Int)) = some (.int .u64 (((t - a) % e : Nat) : Int)) := fun xo yo => b_rem_nat h0'
      simp only [oneW_next, s_0, s_1, s_2, s_3, s_4, g_0, w_0, w_a, Hands, handsV, resultsV, oneOrTuple, argsT, ev, evs, evPairs, evOpt, closed, flat, nth, aCall, aEnter, notYield, aNilCheck, partV, isAggD, aFieldAddr, aField, aExtract, Option.isNone, aBuiltin, aUn, cond_true, cond_false, cond_dec, if_true, if_false, List.length_cons, List.length_nil, forall_const, implies_true, List.append_nil, List.cons_append, List.nil_append, eq_self, Nat.reduceEqDiff, Nat.reduceAdd, Nat.reduceMul, Nat.reduceSub, Nat.reduceLT, Nat.reduceLeDiff, Nat.reduceBEq, reduceIte, reduceCtorEq]
      refine CodeW.seqf E0_ok E0_ro mixed noCon_ok [0, 1, 2, 3, 4, 5, 6, 7, 8, 9, 10, 11] [] (fanOf _ _ _) (by simp only [reorder, reoGo, strip, List.map_cons, List.map_nil, opAt, remap, nth, Option.map, σ, place', nbeq, List.length_cons, List.length_nil, Nat.reduceAdd, Nat.reduceLT, Nat.reduceEqDiff, if_true, if_false, reduceIte]; rfl) (by decide +kernel) (by kernel_rfl) (by kernel_rfl) (by kernel_rfl) rfl ?_
      have hst : ∀ n x y, aStore E0 49 (.pointer (some ⟨A.next, 0, none⟩)) (.agg #[.int .u64 x, .int .u64 y]) { heap := B.heap, next := n } = some (ASt.set { heap := B.heap, next := n } A.next (.row [.int .u64 x, .int .u64 y] 2 false)) := fun n x y => st49 (by rw [get_next]; exact hg)
      simp only [oneW_next, s_0, s_1, s_2, s_3, s_4, g_0, w_0, w_a, Hands, handsV, resultsV, oneOrTuple, argsT, ev, evs, evPairs, evOpt, closed, flat, nth, aCall, aEnter, notYield, aNilCheck, partV, isAggD, aFieldAddr, aField, aExtract, Option.isNone, aBuiltin, aUn, cond_true, cond_false, cond_dec, if_true, if_false, List.length_cons, List.length_nil, forall_const, implies_true, List.append_nil, List.cons_append, List.nil_append, eq_self, Nat.reduceEqDiff, Nat.reduceAdd, Nat.reduceMul, Nat.reduceSub, Nat.reduceLT, Nat.reduceLeDiff, Nat.reduceBEq, reduceIte, reduceCtorEq, q_0, q_1, q_2, f_0, pendW, hasN, reorder, E0_ron, exists_eq', List.length_cons, List.length_nil, e3, hq, hr, bl49_2, hst, e1, e2, cut, List.take_succ_cons, List.take_zero, List.drop_zero, Option.some.injEq, Value.agg.injEq, Array.mk.injEq]
      exact (hf.trans (Fr.bump (Nat.le_add_right _ _))).set (.inr (Nat.le_refl _))
theorem last_spec {A : ASt} {a e t : Nat} (ha : a < 18446744073709551616) (he : e < 18446744073709551616) (ht : t < 18446744073709551616) :
    CallW Z Tryd.prog 31 [.int .u64 (a : Int), .int .u64 (e : Int), .int .u64 (t : Int)] A (fun v A' => v = (if t < a then .tuple #[.int .u64 0, .bool false] else .tuple #[.int .u64 ((t - rst a e t : Nat) : Int), .bool true]) ∧ Fr [] A A') := by
  refine CallW.of_code E0_ok E0_ro fn31 rfl (n := 18) rfl (rs := [.tmp 6, .tmp 7]) rfl (by simp) (codeW_ok E0_ok E0_ro ?_)
  simp only [oneW_next, s_0, s_1, s_2, s_3, s_4, g_0, w_0, w_a, Hands, handsV, resultsV, oneOrTuple, argsT, ev, evs, evPairs, evOpt, closed, flat, nth, aCall, aEnter, notYield, aNilCheck, partV, isAggD, aFieldAddr, aField, aExtract, Option.isNone, aBuiltin, aUn, cond_true, cond_false, cond_dec, if_true, if_false, List.length_cons, List.length_nil, forall_const, implies_true, List.append_nil, List.cons_append, List.nil_append, eq_self, Nat.reduceEqDiff, Nat.reduceAdd, Nat.reduceMul, Nat.reduceSub, Nat.reduceLT, Nat.reduceLeDiff, Nat.reduceBEq, reduceIte, reduceCtorEq]
  refine brW_dec (fun h => ?_) (fun h => ?_)
  · have hl : t < a := by omega
    simp only [oneW_next, s_0, s_1, s_2, s_3, s_4, g_0, w_0, w_a, Hands, handsV, resultsV, oneOrTuple, argsT, ev, evs, evPairs, evOpt, closed, flat, nth, aCall, aEnter, notYield, aNilCheck, partV, isAggD, aFieldAddr, aField, aExtract, Option.isNone, aBuiltin, aUn, cond_true, cond_false, cond_dec, if_true, if_false, List.length_cons, List.length_nil, forall_const, implies_true, List.append_nil, List.cons_append, List.nil_append, eq_self, Nat.reduceEqDiff, Nat.reduceAdd, Nat.reduceMul, Nat.reduceSub, Nat.reduceLT, Nat.reduceLeDiff, Nat.reduceBEq, reduceIte, reduceCtorEq, hl]
    exact .refl _ _
  · have hl : ¬ t < a := by omega
    simp only [oneW_next, s_0, s_1, s_2, s_3, s_4, g_0, w_0, w_a, Hands, handsV, resultsV, oneOrTuple, argsT, ev, evs, evPairs, evOpt, closed, flat, nth, aCall, aEnter, notYield, aNilCheck, partV, isAggD, aFieldAddr, aField, aExtract, Option.isNone, aBuiltin, aUn, cond_true, cond_false, cond_dec, if_true, if_false, List.length_cons, List.length_nil, forall_const, implies_true, List.append_nil, List.cons_append, List.nil_append, eq_self, Nat.reduceEqDiff, Nat.reduceAdd, Nat.reduceMul, Nat.reduceSub, Nat.reduceLT, Nat.reduceLeDiff, Nat.reduceBEq, reduceIte, reduceCtorEq, hl]
    refine CallT.mono (steps_spec ha he ht) ?_
    rintro _ B ⟨rfl, hf⟩
    have hr : rst a e t ≤ t := by
      unfold rst
      rw [if_neg hl]
      split
      · omega
      · exact Nat.le_trans (Nat.mod_le _ _) (by omega)
    simp only [oneW_next, s_0, s_1, s_2, s_3, s_4, g_0, w_0, w_a, Hands, handsV, resultsV, oneOrTuple, argsT, ev, evs, evPairs, evOpt, closed, flat, nth, aCall, aEnter, notYield, aNilCheck, partV, isAggD, aFieldAddr, aField, aExtract, Option.isNone, aBuiltin, aUn, cond_true, cond_false, cond_dec, if_true, if_false, List.length_cons, List.length_nil, forall_const, implies_true, List.append_nil, List.cons_append, List.nil_append, eq_self, Nat.reduceEqDiff, Nat.reduceAdd, Nat.reduceMul, Nat.reduceSub, Nat.reduceLT, Nat.reduceLeDiff, Nat.reduceBEq, reduceIte, reduceCtorEq, aIndex, wrap_sub ht hr, hl]
    exact hf
/-- The first occurrence above a tick. -/
def nxt (a e t : Nat) : Option Nat := if t < a then some a else if e = 0 then none else if 18446744073709551616 ≤ t - rst a e t + e then none else some (t - rst a e t + e)
def optV : Option Nat → Value
  | some x => .tuple #[.int .u64 (x : Int), .bool true]
  | none => .tuple #[.int .u64 0, .bool false]
theorem add64_run {x y : Nat} : pureRun Tryd.prog (add64Entry #[.int .u64 (x : Int), .int .u64 (y : Int), .int .u64 0]) = some (.tuple #[.int .u64 (((x + y) % 18446744073709551616 : Nat) : Int), .int .u64 (((x + y) / 18446744073709551616 : Nat) : Int)]) := by
  rfl
theorem ext32 : E0.ext 32 = some (fun args => pureRun Tryd.prog (add64Entry args.toArray)) := rfl
theorem next_spec {A : ASt} {a e t : Nat} (ha : a < 18446744073709551616) (he : e < 18446744073709551616) (ht : t < 18446744073709551616) :
    CallW Z Tryd.prog 17 [.int .u64 (a : Int), .int .u64 (e : Int), .int .u64 (t : Int)] A (fun v A' => v = optV (nxt a e t) ∧ Fr [] A A') := by
  refine CallW.of_code E0_ok E0_ro fn17 rfl (n := 36) rfl (rs := [.tmp 6, .tmp 7]) rfl (by simp) (codeW_ok E0_ok E0_ro ?_)
  simp only [oneW_next, s_0, s_1, s_2, s_3, s_4, g_0, w_0, w_a, Hands, handsV, resultsV, oneOrTuple, argsT, ev, evs, evPairs, evOpt, closed, flat, nth, aCall, aEnter, notYield, aNilCheck, partV, isAggD, aFieldAddr, aField, aExtract, Option.isNone, aBuiltin, aUn, cond_true, cond_false, cond_dec, if_true, if_false, List.length_cons, List.length_nil, forall_const, implies_true, List.append_nil, List.cons_append, List.nil_append, eq_self, Nat.reduceEqDiff, Nat.reduceAdd, Nat.reduceMul, Nat.reduceSub, Nat.reduceLT, Nat.reduceLeDiff, Nat.reduceBEq, reduceIte, reduceCtorEq]
  refine brW_dec (fun h => ?_) (fun h => ?_)
  · have hl : t < a := by omega
    simp only [oneW_next, s_0, s_1, s_2, s_3, s_4, g_0, w_0, w_a, Hands, handsV, resultsV, oneOrTuple, argsT, ev, evs, evPairs, evOpt, closed, flat, nth, aCall, aEnter, notYield, aNilCheck, partV, isAggD, aFieldAddr, aField, aExtract, Option.isNone, aBuiltin, aUn, cond_true, cond_false, cond_dec, if_true, if_false, List.length_cons, List.length_nil, forall_const, implies_true, List.append_nil, List.cons_append, List.nil_append, eq_self, Nat.reduceEqDiff, Nat.reduceAdd, Nat.reduceMul, Nat.reduceSub, Nat.reduceLT, Nat.reduceLeDiff, Nat.reduceBEq, reduceIte, reduceCtorEq, nxt, hl, optV]
    exact .refl _ _
  · have hl : ¬ t < a := by omega
    simp only [oneW_next, s_0, s_1, s_2, s_3, s_4, g_0, w_0, w_a, Hands, handsV, resultsV, oneOrTuple, argsT, ev, evs, evPairs, evOpt, closed, flat, nth, aCall, aEnter, notYield, aNilCheck, partV, isAggD, aFieldAddr, aField, aExtract, Option.isNone, aBuiltin, aUn, cond_true, cond_false, cond_dec, if_true, if_false, List.length_cons, List.length_nil, forall_const, implies_true, List.append_nil, List.cons_append, List.nil_append, eq_self, Nat.reduceEqDiff, Nat.reduceAdd, Nat.reduceMul, Nat.reduceSub, Nat.reduceLT, Nat.reduceLeDiff, Nat.reduceBEq, reduceIte, reduceCtorEq]
    refine CallT.mono (last_spec ha he ht) ?_
    rintro _ B ⟨rfl, hf⟩
    have hr : rst a e t ≤ t := by
      unfold rst
      rw [if_neg hl]
      split
      · omega
      · exact Nat.le_trans (Nat.mod_le _ _) (by omega)
    by_cases h0 : e = 0
    · have d0 : ((e : Int) = 0) = True := eq_true (by omega)
      have en : nxt a e t = none := by simp [nxt, hl, h0]
      simp only [oneW_next, s_0, s_1, s_2, s_3, s_4, g_0, w_0, w_a, Hands, handsV, resultsV, oneOrTuple, argsT, ev, evs, evPairs, evOpt, closed, flat, nth, aCall, aEnter, notYield, aNilCheck, partV, isAggD, aFieldAddr, aField, aExtract, Option.isNone, aBuiltin, aUn, cond_true, cond_false, cond_dec, if_true, if_false, List.length_cons, List.length_nil, forall_const, implies_true, List.append_nil, List.cons_append, List.nil_append, eq_self, Nat.reduceEqDiff, Nat.reduceAdd, Nat.reduceMul, Nat.reduceSub, Nat.reduceLT, Nat.reduceLeDiff, Nat.reduceBEq, reduceIte, reduceCtorEq, hl, ext32, add64_run, flats, flat, d0, undef, en, optV]
      exact hf
    · have d0 : ((e : Int) = 0) = False := eq_false (by omega)
      by_cases h1 : 18446744073709551616 ≤ t - rst a e t + e
      · have d1 : ((((t - rst a e t + e) / 18446744073709551616 : Nat) : Int) > 0) = True := eq_true (by omega)
        have en : nxt a e t = none := by simp [nxt, hl, h0, h1]
        simp only [oneW_next, s_0, s_1, s_2, s_3, s_4, g_0, w_0, w_a, Hands, handsV, resultsV, oneOrTuple, argsT, ev, evs, evPairs, evOpt, closed, flat, nth, aCall, aEnter, notYield, aNilCheck, partV, isAggD, aFieldAddr, aField, aExtract, Option.isNone, aBuiltin, aUn, cond_true, cond_false, cond_dec, if_true, if_false, List.length_cons, List.length_nil, forall_const, implies_true, List.append_nil, List.cons_append, List.nil_append, eq_self, Nat.reduceEqDiff, Nat.reduceAdd, Nat.reduceMul, Nat.reduceSub, Nat.reduceLT, Nat.reduceLeDiff, Nat.reduceBEq, reduceIte, reduceCtorEq, hl, ext32, add64_run, flats, flat, d0, d1, undef, en, optV]
        exact hf
      · have d1 : ((((t - rst a e t + e) / 18446744073709551616 : Nat) : Int) > 0) = False := eq_false (by omega)
        have en : nxt a e t = some (t - rst a e t + e) := by simp [nxt, hl, h0, h1]
        have em : (t - rst a e t + e) % 18446744073709551616 = t - rst a e t + e := by omega
        simp only [oneW_next, s_0, s_1, s_2, s_3, s_4, g_0, w_0, w_a, Hands, handsV, resultsV, oneOrTuple, argsT, ev, evs, evPairs, evOpt, closed, flat, nth, aCall, aEnter, notYield, aNilCheck, partV, isAggD, aFieldAddr, aField, aExtract, Option.isNone, aBuiltin, aUn, cond_true, cond_false, cond_dec, if_true, if_false, List.length_cons, List.length_nil, forall_const, implies_true, List.append_nil, List.cons_append, List.nil_append, eq_self, Nat.reduceEqDiff, Nat.reduceAdd, Nat.reduceMul, Nat.reduceSub, Nat.reduceLT, Nat.reduceLeDiff, Nat.reduceBEq, reduceIte, reduceCtorEq, hl, ext32, add64_run, flats, flat, d0, d1, undef, en, optV, em]
        exact hf
/-- Whether a tick is an occurrence. -/
theorem index_spec {A : ASt} {a e t : Nat} (ha : a < 18446744073709551616) (he : e < 18446744073709551616) (ht : t < 18446744073709551616) :
    CallW Z Tryd.prog 8 [.int .u64 (a : Int), .int .u64 (e : Int), .int .u64 (t : Int)] A (fun v A' => (∃ n, v = .tuple #[.int .u64 n, .bool (decide (a ≤ t ∧ rst a e t = 0))]) ∧ Fr [] A A') := by
  refine CallW.of_code E0_ok E0_ro fn8 rfl (n := 23) rfl (rs := [.tmp 6, .tmp 7]) rfl (by simp) (codeW_ok E0_ok E0_ro ?_)
  simp only [oneW_next, s_0, s_1, s_2, s_3, s_4, g_0, w_0, w_a, Hands, handsV, resultsV, oneOrTuple, argsT, ev, evs, evPairs, evOpt, closed, flat, nth, aCall, aEnter, notYield, aNilCheck, partV, isAggD, aFieldAddr, aField, aExtract, Option.isNone, aBuiltin, aUn, cond_true, cond_false, cond_dec, if_true, if_false, List.length_cons, List.length_nil, forall_const, implies_true, List.append_nil, List.cons_append, List.nil_append, eq_self, Nat.reduceEqDiff, Nat.reduceAdd, Nat.reduceMul, Nat.reduceSub, Nat.reduceLT, Nat.reduceLeDiff, Nat.reduceBEq, reduceIte, reduceCtorEq]
  refine CallT.mono (steps_spec ha he ht) ?_
  rintro _ B ⟨rfl, hf⟩
  have st : ∀ x y : Int, aStore E0 49 (.pointer (some ⟨B.next, 0, none⟩)) (.agg #[.int .u64 x, .int .u64 y]) (B.new (.row [.int .u64 0, .int .u64 0] 2 false)) = some ((B.new (.row [.int .u64 0, .int .u64 0] 2 false)).set B.next (.row [.int .u64 x, .int .u64 y] 2 false)) := fun x y => st49 (by rw [ASt.get_new, if_pos rfl])
  have i0 : ∀ C b, aIndexAddr E0 49 (.pointer (some ⟨b, 0, none⟩)) (.int .i64 0) = some (.pointer (some ⟨b, 0, none⟩)) := fun C b => indexAddr_arr (A := C) ti49 t49_desc ti22 (k := 0) (off := 0) (by omega)
  have i1 : ∀ C b, aIndexAddr E0 49 (.pointer (some ⟨b, 0, none⟩)) (.int .i64 1) = some (.pointer (some ⟨b, 1, none⟩)) := fun C b => indexAddr_arr (A := C) ti49 t49_desc ti22 (k := 1) (off := 0) (by omega)
  have i0 := i0 B
  have i1 := i1 B
  have hf2 : Fr [] A ((B.new (.row [.int .u64 0, .int .u64 0] 2 false)).set B.next (.row [.int .u64 (cnt a e t : Int), .int .u64 (rst a e t : Int)] 2 false)) := (hf.trans .new).set (.inr hf.next)
  by_cases h1 : t < a
  · have d1 : ((t : Int) < (a : Int)) = True := eq_true (by omega)
    have d2 : decide (a ≤ t ∧ rst a e t = 0) = false := decide_eq_false (by omega)
    simp only [oneW_next, s_0, s_1, s_2, s_3, s_4, g_0, w_0, w_a, Hands, handsV, resultsV, oneOrTuple, argsT, ev, evs, evPairs, evOpt, closed, flat, nth, aCall, aEnter, notYield, aNilCheck, partV, isAggD, aFieldAddr, aField, aExtract, Option.isNone, aBuiltin, aUn, cond_true, cond_false, cond_dec, if_true, if_false, List.length_cons, List.length_nil, forall_const, implies_true, List.append_nil, List.cons_append, List.nil_append, eq_self, Nat.reduceEqDiff, Nat.reduceAdd, Nat.reduceMul, Nat.reduceSub, Nat.reduceLT, Nat.reduceLeDiff, Nat.reduceBEq, reduceIte, reduceCtorEq, zero49, ptrTo, st, d1, d2, undef]
    exact ⟨⟨_, rfl⟩, hf2⟩
  · have d1 : ((t : Int) < (a : Int)) = False := eq_false (by omega)
    by_cases h2 : rst a e t = 0
    · have d2 : (((rst a e t : Nat) : Int) > 0) = False := eq_false (by omega)
      have d3 : decide (a ≤ t ∧ rst a e t = 0) = true := decide_eq_true (by omega)
      simp only [oneW_next, s_0, s_1, s_2, s_3, s_4, g_0, w_0, w_a, Hands, handsV, resultsV, oneOrTuple, argsT, ev, evs, evPairs, evOpt, closed, flat, nth, aCall, aEnter, notYield, aNilCheck, partV, isAggD, aFieldAddr, aField, aExtract, Option.isNone, aBuiltin, aUn, cond_true, cond_false, cond_dec, if_true, if_false, List.length_cons, List.length_nil, forall_const, implies_true, List.append_nil, List.cons_append, List.nil_append, eq_self, Nat.reduceEqDiff, Nat.reduceAdd, Nat.reduceMul, Nat.reduceSub, Nat.reduceLT, Nat.reduceLeDiff, Nat.reduceBEq, reduceIte, reduceCtorEq, zero49, ptrTo, st, d1, d2, d3, i0, i1, undef]
      exact ⟨⟨_, rfl⟩, hf2⟩
    · have d2 : (((rst a e t : Nat) : Int) > 0) = True := eq_true (by omega)
      have d3 : decide (a ≤ t ∧ rst a e t = 0) = false := decide_eq_false (by omega)
      simp only [oneW_next, s_0, s_1, s_2, s_3, s_4, g_0, w_0, w_a, Hands, handsV, resultsV, oneOrTuple, argsT, ev, evs, evPairs, evOpt, closed, flat, nth, aCall, aEnter, notYield, aNilCheck, partV, isAggD, aFieldAddr, aField, aExtract, Option.isNone, aBuiltin, aUn, cond_true, cond_false, cond_dec, if_true, if_false, List.length_cons, List.length_nil, forall_const, implies_true, List.append_nil, List.cons_append, List.nil_append, eq_self, Nat.reduceEqDiff, Nat.reduceAdd, Nat.reduceMul, Nat.reduceSub, Nat.reduceLT, Nat.reduceLeDiff, Nat.reduceBEq, reduceIte, reduceCtorEq, zero49, ptrTo, st, d1, d2, d3, i0, i1, undef]
      exact ⟨⟨_, rfl⟩, hf2⟩
end Go.Proofs.YtgcffmhpjphefaaDoor

/- Steps: a clone, the same, few; a timer behind it fired. -/
namespace Go.Proofs.YtgcffmhpjphefaaDoor
open Go Go.AE
set_option maxRecDepth 10000
set_option maxHeartbeats 4000000
variable {Z : Go.AE.Road} {s : Spans}

theorem eqnilS_f {t e : TypeId} {ti : TIn} (ht : E0.ti t = some ti) (hd : ti.desc = .slice e) {xo yo : Operand} {x : Addr} {n c : Nat} : aBin2 E0 .eql t xo yo (.slice (some x) n c) (.slice none 0 0) = some (.bool false) := by
  simp [aBin2, aBin, eqV, ht, hd]
theorem eqnilS_t {t e : TypeId} {ti : TIn} (ht : E0.ti t = some ti) (hd : ti.desc = .slice e) {xo yo : Operand} : aBin2 E0 .eql t xo yo (.slice none 0 0) (.slice none 0 0) = some (.bool true) := by
  simp [aBin2, aBin, eqV, ht, hd]
theorem bs23 : aBuildSlice E0 23 0 [] = some (.row [] 4 false, fun id => .slice (some ⟨id, 0, none⟩) 0 0) := by kernel_rfl
theorem z36c : closed (.agg #[.int .i64 0, .string ByteArray.empty, .string ByteArray.empty, .int .i64 0]) = true := by kernel_rfl
theorem z36l : Nat.beq (Value.agg #[.int .i64 0, .string ByteArray.empty, .string ByteArray.empty, .int .i64 0]).cells.toList.length 4 = true := by kernel_rfl

theorem clone_spec (hro : RoadS Z E0 s) {A : ASt} {S : Nat → Prop} {v : Value} {l : List StepD} (h : Steps (withRo E0 s) A S v l) (hl : l.length ≤ 1000) :
    CallW Z Tryd.prog 33 [v] A (fun r A' => Steps (withRo E0 s) A' (fun b => A.next ≤ b) r l ∧ Fr [] A A') := by
  refine CallW.assume hro fun hnr => ?_
  refine CallW.of_code (withRo_ok E0_ok) hro.ro (f := 33) (fn := Tryd.f33) fn33 rfl (n := 8) rfl (rs := [.tmp 2]) rfl (by simp) (codeW_ok (withRo_ok E0_ok) hro.ro ?_)
  have h' := h
  rcases h with ⟨h1, rfl⟩ | ⟨b, o, cap, c, rfl, _⟩
  · simp only [w_w, oneW_next, s_0, s_1, s_2, s_3, s_4, g_0, w_0, w_a, Hands, handsV, resultsV, oneOrTuple, argsT, ev, evs, evPairs, evOpt, closed, flat, nth, aCall, aEnter, notYield, aNilCheck, partV, isAggD, aFieldAddr, aField, aExtract, Option.isNone, aBuiltin, aUn, cond_true, cond_false, cond_dec, if_true, if_false, List.length_cons, List.length_nil, forall_const, implies_true, List.append_nil, List.cons_append, List.nil_append, eq_self, Nat.reduceEqDiff, Nat.reduceAdd, Nat.reduceMul, Nat.reduceSub, Nat.reduceLT, Nat.reduceLeDiff, Nat.reduceBEq, reduceIte, reduceCtorEq, eqnilS_t ti23 t23_desc]
    exact ⟨.inl ⟨h1, rfl⟩, .refl _ _⟩
  · have hN : Fr [] A (A.new (.row [] 4 false)) := .new
    obtain ⟨r, B, ha, hb, hf⟩ := append_all hnr (h'.fr hN (by simp)) rfl rfl (xt := 23) scell_len (wti.trans ti23) t23_desc (wti.trans ti36) t36_size (wti.trans ti23) (by rw [t23_desc]; rfl) t36_zero z36c z36l (by omega) (by rw [t36_bytes, List.length_map]; omega) scell_sg
    simp only [w_w, oneW_next, s_0, s_1, s_2, s_3, s_4, g_0, w_0, w_a, Hands, handsV, resultsV, oneOrTuple, argsT, ev, evs, evPairs, evOpt, closed, flat, nth, aCall, aEnter, notYield, aNilCheck, partV, isAggD, aFieldAddr, aField, aExtract, Option.isNone, aBuiltin, aUn, cond_true, cond_false, cond_dec, if_true, if_false, List.length_cons, List.length_nil, forall_const, implies_true, List.append_nil, List.cons_append, List.nil_append, eq_self, Nat.reduceEqDiff, Nat.reduceAdd, Nat.reduceMul, Nat.reduceSub, Nat.reduceLT, Nat.reduceLeDiff, Nat.reduceBEq, reduceIte, reduceCtorEq, eqnilS_f ti23 t23_desc, bs23, ha]
    exact ⟨hb, hf⟩

/-- A timer. -/
structure TimD where
  name : ByteArray
  ver : Int
  at_ : Nat
  every : Nat
  steps : List StepD
def tcell (t : TimD) (dv : Value) : List Value := [.string t.name, .int .i64 t.ver, .int .u64 (t.at_ : Int), .int .u64 (t.every : Int), dv]
def tval (t : TimD) (dv : Value) : Value := .agg #[.string t.name, .int .i64 t.ver, .int .u64 (t.at_ : Int), .int .u64 (t.every : Int), dv]
theorem box25 {a b c d e : Value} : aBox E0 25 (.agg #[a, b, c, d, e]) = some (.row [a, b, c, d, e] 5 false, ptrTo) := by
  simp only [aBox, w_0]; rfl
theorem al25 : aAlloc E0 25 = some (.row [.string ByteArray.empty, .int .i64 0, .int .u64 0, .int .u64 0, .slice none 0 0] 5 false, ptrTo) := by
  simp only [aAlloc, w_0]; rfl
theorem st25 {A : ASt} {b : Nat} {c0 c1 c2 c3 c4 a0 a1 a2 a3 a4 : Value} {tl : Bool} (h : A.get b = some (.row [c0, c1, c2, c3, c4] 5 tl)) (hs : singles [a0, a1, a2, a3, a4] = true) : aStore E0 25 (.pointer (some ⟨b, 0, none⟩)) (.agg #[a0, a1, a2, a3, a4]) A = some (A.set b (.row [a0, a1, a2, a3, a4] 5 tl)) := by
  have e : (Value.agg #[a0, a1, a2, a3, a4]).cells.toList = [a0, a1, a2, a3, a4] := rfl
  simp only [aStore, h, w_0, e, hs]; rfl
theorem st23 {A : ASt} {b : Nat} {c0 c1 c2 c3 c4 v : Value} {tl : Bool} (h : A.get b = some (.row [c0, c1, c2, c3, c4] 5 tl)) (hs : v.cells = #[v]) (hv : single v = true) : aStore E0 23 (.pointer (some ⟨b, 4, none⟩)) v A = some (A.set b (.row [c0, c1, c2, c3, v] 5 tl)) := by
  have e : v.cells.toList = [v] := by rw [hs]
  have e2 : singles [v] = true := by simp only [singles, hv, Bool.and_self]
  simp only [aStore, h, w_0, e, e2]; rfl
theorem tim_sg {n : ByteArray} {v a e : Int} {r : Value} (h : Go.AE.single r = true) : singles [.string n, .int .i64 v, .int .u64 a, .int .u64 e, r] = true := by
  show (Go.AE.single r && true) = true
  rw [h]; rfl
theorem cut5 {a b c d e : Value} : cut [a, b, c, d, e] 0 5 = some [a, b, c, d, e] := rfl

theorem copied_spec (hro : RoadS Z E0 s) {A : ASt} {S : Nat → Prop} {t : TimD} {dv : Value} (h : Steps (withRo E0 s) A S dv t.steps) (hl : t.steps.length ≤ 1000) :
    CallW Z Tryd.prog 18 [tval t dv] A (fun r A' => ∃ dv', r = tval t dv' ∧ Steps (withRo E0 s) A' (fun b => A.next ≤ b) dv' t.steps ∧ Fr [] A A') := by
  refine CallW.of_code (withRo_ok E0_ok) hro.ro (f := 18) (fn := Tryd.f18) fn18 rfl (n := 8) rfl (rs := [.cell 2 25]) rfl (by simp) (codeW_ok (withRo_ok E0_ok) hro.ro ?_)
  have hsd := h.single
  simp only [w_w, oneW_next, s_0, s_1, s_2, s_3, s_4, g_0, w_0, w_a, Hands, handsV, resultsV, oneOrTuple, argsT, ev, evs, evPairs, evOpt, closed, flat, nth, aCall, aEnter, notYield, aNilCheck, partV, isAggD, aFieldAddr, aField, aExtract, Option.isNone, aBuiltin, aUn, cond_true, cond_false, cond_dec, if_true, if_false, List.length_cons, List.length_nil, forall_const, implies_true, List.append_nil, List.cons_append, List.nil_append, eq_self, Nat.reduceEqDiff, Nat.reduceAdd, Nat.reduceMul, Nat.reduceSub, Nat.reduceLT, Nat.reduceLeDiff, Nat.reduceBEq, reduceIte, reduceCtorEq, tval, box25, al25, ptrTo]
  generalize hC : ASt.new (ASt.new A _) _ = C
  obtain ⟨c1, c2, hn, hf⟩ := two_new hC
  clear hC
  refine CallT.mono (clone_spec hro (h.fr hf (by simp)) hl) ?_
  rintro r D ⟨hr, hf2⟩
  have d1 := (hf2.get _ (by omega) (by simp)).trans c1
  have d2 := (hf2.get _ (by omega) (by simp)).trans c2
  have g1 : (D.set A.next (.row [.string t.name, .int .i64 t.ver, .int .u64 (t.at_ : Int), .int .u64 (t.every : Int), r] 5 false)).get A.next = some (.row [.string t.name, .int .i64 t.ver, .int .u64 (t.at_ : Int), .int .u64 (t.every : Int), r] 5 false) := by rw [ASt.get_set, if_pos rfl]
  have g2 : (D.set A.next (.row [.string t.name, .int .i64 t.ver, .int .u64 (t.at_ : Int), .int .u64 (t.every : Int), r] 5 false)).get (A.next + 1) = D.get (A.next + 1) := by rw [ASt.get_set, if_neg (by omega)]
  have g2 := g2.trans d2
  have hsr : singles [.string t.name, .int .i64 t.ver, .int .u64 (t.at_ : Int), .int .u64 (t.every : Int), r] = true := tim_sg hr.single
  simp only [w_w, oneW_next, s_0, s_1, s_2, s_3, s_4, g_0, w_0, w_a, Hands, handsV, resultsV, oneOrTuple, argsT, ev, evs, evPairs, evOpt, closed, flat, nth, aCall, aEnter, notYield, aNilCheck, partV, isAggD, aFieldAddr, aField, aExtract, Option.isNone, aBuiltin, aUn, cond_true, cond_false, cond_dec, if_true, if_false, List.length_cons, List.length_nil, forall_const, implies_true, List.append_nil, List.cons_append, List.nil_append, eq_self, Nat.reduceEqDiff, Nat.reduceAdd, Nat.reduceMul, Nat.reduceSub, Nat.reduceLT, Nat.reduceLeDiff, Nat.reduceBEq, reduceIte, reduceCtorEq, st23 d1 hr.cells1 hr.single, g1, cut5, st25 g2 hsr]
  have hA : C.next ≤ D.next := hf2.next
  have f3 : Fr [A.next, A.next + 1] D ((D.set A.next (.row [.string t.name, .int .i64 t.ver, .int .u64 (t.at_ : Int), .int .u64 (t.every : Int), r] 5 false)).set (A.next + 1) (.row [.string t.name, .int .i64 t.ver, .int .u64 (t.at_ : Int), .int .u64 (t.every : Int), r] 5 false)) := ((Fr.refl _ _).set (.inl (by simp))).set (.inl (by simp))
  have g3 : ((D.set A.next (.row [.string t.name, .int .i64 t.ver, .int .u64 (t.at_ : Int), .int .u64 (t.every : Int), r] 5 false)).set (A.next + 1) (.row [.string t.name, .int .i64 t.ver, .int .u64 (t.at_ : Int), .int .u64 (t.every : Int), r] 5 false)).get (A.next + 1) = some (.row [.string t.name, .int .i64 t.ver, .int .u64 (t.at_ : Int), .int .u64 (t.every : Int), r] 5 false) := by rw [ASt.get_set, if_pos rfl]
  refine ⟨r, rfl, ((hr.imp (S' := fun b => A.next + 2 ≤ b) (fun b hb _ => by omega)).fr f3 (fun b hb _ => by simp; omega)).imp (fun b hb _ => by omega), ((hf.trans hf2).set (.inr (Nat.le_refl _))).set (.inr (by omega))⟩
end Go.Proofs.YtgcffmhpjphefaaDoor

/- A timer behind it fired; timers that are the same; few steps. -/
namespace Go.Proofs.YtgcffmhpjphefaaDoor
open Go Go.AE
set_option maxRecDepth 10000
set_option maxHeartbeats 4000000
variable {Z : Go.AE.Road} {s : Spans}

def zt : TimD := ⟨ByteArray.empty, 0, 0, 0, []⟩
/-- A timer behind it fired. -/
def aft (t : TimD) (now : Nat) : Option TimD := match nxt t.at_ t.every now with
  | some x => if 4611686018427387904 < x then none else some { t with at_ := x }
  | none => none
theorem nxt_lt {a e t x : Nat} (ha : a < 18446744073709551616) (h : nxt a e t = some x) : x < 18446744073709551616 := by
  unfold nxt at h
  split at h
  · cases h; exact ha
  · split at h
    · cases h
    · split at h
      · cases h
      · cases h; omega
theorem bl25 : aBuild E0 25 [] = some (tval zt (.slice none 0 0)) := by kernel_rfl
theorem st22 {A : ASt} {b : Nat} {c0 c1 c2 c3 c4 : Value} {tl : Bool} {x : Int} (h : A.get b = some (.row [c0, c1, c2, c3, c4] 5 tl)) : aStore E0 22 (.pointer (some ⟨b, 2, none⟩)) (.int .u64 x) A = some (A.set b (.row [c0, c1, .int .u64 x, c3, c4] 5 tl)) := by
  simp only [aStore, h, w_0]; rfl

theorem after_spec (hro : RoadS Z E0 s) {A : ASt} {S : Nat → Prop} {t : TimD} {dv : Value} {now : Nat} (h : Steps (withRo E0 s) A S dv t.steps) (hl : t.steps.length ≤ 1000) (ha : t.at_ < 18446744073709551616) (he : t.every < 18446744073709551616) (hn : now < 18446744073709551616) :
    CallW Z Tryd.prog 7 [tval t dv, .int .u64 (now : Int)] A (fun r A' => ∃ dv', r = .tuple #[tval ((aft t now).getD zt) dv', .bool (aft t now).isSome] ∧ Steps (withRo E0 s) A' (fun b => A.next ≤ b) dv' ((aft t now).getD zt).steps ∧ Fr [] A A') := by
  refine CallW.of_code (withRo_ok E0_ok) hro.ro (f := 7) (fn := Tryd.f7) fn7 rfl (n := 28) rfl (rs := [.cell 4 25, .tmp 5]) rfl (by simp) (codeW_ok (withRo_ok E0_ok) hro.ro ?_)
  simp only [w_w, oneW_next, s_0, s_1, s_2, s_3, s_4, g_0, w_0, w_a, Hands, handsV, resultsV, oneOrTuple, argsT, ev, evs, evPairs, evOpt, closed, flat, nth, aCall, aEnter, notYield, aNilCheck, partV, isAggD, aFieldAddr, aField, aExtract, Option.isNone, aBuiltin, aUn, cond_true, cond_false, cond_dec, if_true, if_false, List.length_cons, List.length_nil, forall_const, implies_true, List.append_nil, List.cons_append, List.nil_append, eq_self, Nat.reduceEqDiff, Nat.reduceAdd, Nat.reduceMul, Nat.reduceSub, Nat.reduceLT, Nat.reduceLeDiff, Nat.reduceBEq, reduceIte, reduceCtorEq, tval, box25, al25, ptrTo]
  generalize hC : ASt.new (ASt.new A _) _ = C
  obtain ⟨c1, c2, hCn, hf⟩ := two_new hC
  clear hC
  refine CallT.mono (next_spec ha he hn) ?_
  rintro _ D ⟨rfl, hf2⟩
  have hA : C.next ≤ D.next := hf2.next
  have d1 := (hf2.get _ (by omega) (by simp)).trans c1
  have d2 := (hf2.get _ (by omega) (by simp)).trans c2
  have hs := h.single
  have hzs : singles [.string zt.name, .int .i64 zt.ver, .int .u64 (zt.at_ : Int), .int .u64 (zt.every : Int), .slice none 0 0] = true := rfl
  have none_ : aft t now = none → (∃ x, (nxt t.at_ t.every now) = some x ∧ 4611686018427387904 < x) ∨ nxt t.at_ t.every now = none := by
    intro e
    unfold aft at e
    cases hx : nxt t.at_ t.every now with
    | none => exact .inr rfl
    | some x =>
      rw [hx] at e
      simp only at e
      split at e
      · rename_i hlt; exact .inl ⟨x, rfl, hlt⟩
      · cases e
  have fin : ∀ {v : Value}, v = .tuple #[tval zt (.slice none 0 0), .bool false] → aft t now = none → ∃ dv', v = .tuple #[tval ((aft t now).getD zt) dv', .bool (aft t now).isSome] ∧ Steps (withRo E0 s) (D.set (A.next + 1) (.row [.string zt.name, .int .i64 zt.ver, .int .u64 (zt.at_ : Int), .int .u64 (zt.every : Int), .slice none 0 0] 5 false)) (fun b => A.next ≤ b) dv' ((aft t now).getD zt).steps ∧ Fr [] A (D.set (A.next + 1) (.row [.string zt.name, .int .i64 zt.ver, .int .u64 (zt.at_ : Int), .int .u64 (zt.every : Int), .slice none 0 0] 5 false)) := by
    rintro v rfl e
    rw [e]
    exact ⟨.slice none 0 0, rfl, .inl ⟨rfl, rfl⟩, (hf.trans hf2).set (.inr (by omega))⟩
  cases ho : aft t now with
  | none =>
    have g2 : (D.set (A.next + 1) (.row [.string zt.name, .int .i64 zt.ver, .int .u64 (zt.at_ : Int), .int .u64 (zt.every : Int), .slice none 0 0] 5 false)).get (A.next + 1) = some (.row [.string zt.name, .int .i64 zt.ver, .int .u64 (zt.at_ : Int), .int .u64 (zt.every : Int), .slice none 0 0] 5 false) := by rw [ASt.get_set, if_pos rfl]
    rw [ho] at fin
    rcases none_ ho with ⟨x, hx, hlt⟩ | hx
    · have dx : ((x : Int) > 4611686018427387904) = True := eq_true (by omega)
      simp only [w_w, oneW_next, s_0, s_1, s_2, s_3, s_4, g_0, w_0, w_a, Hands, handsV, resultsV, oneOrTuple, argsT, ev, evs, evPairs, evOpt, closed, flat, nth, aCall, aEnter, notYield, aNilCheck, partV, isAggD, aFieldAddr, aField, aExtract, Option.isNone, aBuiltin, aUn, cond_true, cond_false, cond_dec, if_true, if_false, List.length_cons, List.length_nil, forall_const, implies_true, List.append_nil, List.cons_append, List.nil_append, eq_self, Nat.reduceEqDiff, Nat.reduceAdd, Nat.reduceMul, Nat.reduceSub, Nat.reduceLT, Nat.reduceLeDiff, Nat.reduceBEq, reduceIte, reduceCtorEq, hx, optV, dx, bl25, st25 d2 hzs, tval, g2, cut5, undef]
      exact fin rfl rfl
    · simp only [w_w, oneW_next, s_0, s_1, s_2, s_3, s_4, g_0, w_0, w_a, Hands, handsV, resultsV, oneOrTuple, argsT, ev, evs, evPairs, evOpt, closed, flat, nth, aCall, aEnter, notYield, aNilCheck, partV, isAggD, aFieldAddr, aField, aExtract, Option.isNone, aBuiltin, aUn, cond_true, cond_false, cond_dec, if_true, if_false, List.length_cons, List.length_nil, forall_const, implies_true, List.append_nil, List.cons_append, List.nil_append, eq_self, Nat.reduceEqDiff, Nat.reduceAdd, Nat.reduceMul, Nat.reduceSub, Nat.reduceLT, Nat.reduceLeDiff, Nat.reduceBEq, reduceIte, reduceCtorEq, hx, optV, bl25, st25 d2 hzs, tval, g2, cut5, undef]
      exact fin rfl rfl
  | some u =>
    have hx : nxt t.at_ t.every now = some u.at_ ∧ u = { t with at_ := u.at_ } ∧ ¬ 4611686018427387904 < u.at_ := by
      unfold aft at ho
      cases hx : nxt t.at_ t.every now with
      | none => rw [hx] at ho; cases ho
      | some x =>
        rw [hx] at ho
        simp only at ho
        split at ho
        · cases ho
        · rename_i hlt; cases ho; exact ⟨rfl, rfl, hlt⟩
    obtain ⟨hx, hu, hlt⟩ := hx
    have hus : u.steps = t.steps := by rw [hu]
    have hun : u.name = t.name := by rw [hu]
    have huv : u.ver = t.ver := by rw [hu]
    have hue : u.every = t.every := by rw [hu]
    have dx : ((u.at_ : Int) > 4611686018427387904) = False := eq_false (by omega)
    simp only [w_w, oneW_next, s_0, s_1, s_2, s_3, s_4, g_0, w_0, w_a, Hands, handsV, resultsV, oneOrTuple, argsT, ev, evs, evPairs, evOpt, closed, flat, nth, aCall, aEnter, notYield, aNilCheck, partV, isAggD, aFieldAddr, aField, aExtract, Option.isNone, aBuiltin, aUn, cond_true, cond_false, cond_dec, if_true, if_false, List.length_cons, List.length_nil, forall_const, implies_true, List.append_nil, List.cons_append, List.nil_append, eq_self, Nat.reduceEqDiff, Nat.reduceAdd, Nat.reduceMul, Nat.reduceSub, Nat.reduceLT, Nat.reduceLeDiff, Nat.reduceBEq, reduceIte, reduceCtorEq, hx, optV, dx, st22 d1]
    generalize hE : D.set A.next _ = X
    have x1 : X.get A.next = some (.row [.string t.name, .int .i64 t.ver, .int .u64 (u.at_ : Int), .int .u64 (t.every : Int), dv] 5 false) := by rw [← hE, ASt.get_set, if_pos rfl]
    have x2 : X.get (A.next + 1) = D.get (A.next + 1) := by rw [← hE, ASt.get_set, if_neg (by omega)]
    have x2 := x2.trans d2
    have hfX : Fr [] A X := by rw [← hE]; exact (hf.trans hf2).set (.inr (Nat.le_refl _))
    have hXn : X.next = D.next := by rw [← hE, ASt.next_set]
    clear hE
    simp only [w_w, oneW_next, s_0, s_1, s_2, s_3, s_4, g_0, w_0, w_a, Hands, handsV, resultsV, oneOrTuple, argsT, ev, evs, evPairs, evOpt, closed, flat, nth, aCall, aEnter, notYield, aNilCheck, partV, isAggD, aFieldAddr, aField, aExtract, Option.isNone, aBuiltin, aUn, cond_true, cond_false, cond_dec, if_true, if_false, List.length_cons, List.length_nil, forall_const, implies_true, List.append_nil, List.cons_append, List.nil_append, eq_self, Nat.reduceEqDiff, Nat.reduceAdd, Nat.reduceMul, Nat.reduceSub, Nat.reduceLT, Nat.reduceLeDiff, Nat.reduceBEq, reduceIte, reduceCtorEq, x1, cut5]
    have hc := copied_spec hro (A := X) (S := S) (t := u) (dv := dv) (by rw [hus]; exact h.fr hfX (by simp)) (by rw [hus]; exact hl)
    have hte : tval u dv = .agg #[.string t.name, .int .i64 t.ver, .int .u64 (u.at_ : Int), .int .u64 (t.every : Int), dv] := by rw [tval, hun, huv, hue]
    rw [hte] at hc
    refine CallT.mono hc ?_
    rintro _ Y ⟨r, rfl, hr, hf3⟩
    have hYn := hf3.next
    have y2 := (hf3.get _ (by omega) (by simp)).trans x2
    simp only [w_w, oneW_next, s_0, s_1, s_2, s_3, s_4, g_0, w_0, w_a, Hands, handsV, resultsV, oneOrTuple, argsT, ev, evs, evPairs, evOpt, closed, flat, nth, aCall, aEnter, notYield, aNilCheck, partV, isAggD, aFieldAddr, aField, aExtract, Option.isNone, aBuiltin, aUn, cond_true, cond_false, cond_dec, if_true, if_false, List.length_cons, List.length_nil, forall_const, implies_true, List.append_nil, List.cons_append, List.nil_append, eq_self, Nat.reduceEqDiff, Nat.reduceAdd, Nat.reduceMul, Nat.reduceSub, Nat.reduceLT, Nat.reduceLeDiff, Nat.reduceBEq, reduceIte, reduceCtorEq, tval, st25 y2 (tim_sg hr.single)]
    have g2 : (Y.set (A.next + 1) (.row [.string u.name, .int .i64 u.ver, .int .u64 (u.at_ : Int), .int .u64 (u.every : Int), r] 5 false)).get (A.next + 1) = some (.row [.string u.name, .int .i64 u.ver, .int .u64 (u.at_ : Int), .int .u64 (u.every : Int), r] 5 false) := by rw [ASt.get_set, if_pos rfl]
    simp only [w_w, oneW_next, s_0, s_1, s_2, s_3, s_4, g_0, w_0, w_a, Hands, handsV, resultsV, oneOrTuple, argsT, ev, evs, evPairs, evOpt, closed, flat, nth, aCall, aEnter, notYield, aNilCheck, partV, isAggD, aFieldAddr, aField, aExtract, Option.isNone, aBuiltin, aUn, cond_true, cond_false, cond_dec, if_true, if_false, List.length_cons, List.length_nil, forall_const, implies_true, List.append_nil, List.cons_append, List.nil_append, eq_self, Nat.reduceEqDiff, Nat.reduceAdd, Nat.reduceMul, Nat.reduceSub, Nat.reduceLT, Nat.reduceLeDiff, Nat.reduceBEq, reduceIte, reduceCtorEq, g2, cut5]
    refine ⟨r, rfl, ?_, ?_⟩
    · have := (hr.imp (S' := fun b => A.next + 2 ≤ b) (fun b hb _ => by omega)).fr (own := [A.next + 1]) (A' := Y.set (A.next + 1) (.row [.string u.name, .int .i64 u.ver, .int .u64 (u.at_ : Int), .int .u64 (u.every : Int), r] 5 false)) ((Fr.refl _ _).set (.inl (by simp))) (fun b hb _ => by simp; omega)
      exact this.imp (fun b hb _ => by omega)
    · exact (hfX.trans hf3).set (.inr (by omega))
end Go.Proofs.YtgcffmhpjphefaaDoor

/- Steps and timers that are the same; few steps. -/
namespace Go.Proofs.YtgcffmhpjphefaaDoor
open Go Go.AE
set_option maxRecDepth 10000
set_option maxHeartbeats 4000000
variable {Z : Go.AE.Road} {s : Spans}

theorem wrap_succ {i : Nat} (h : i < 1000000) : IntKind.i64.wrap ((i : Int) + 1) = ((i + 1 : Nat) : Int) := by
  rw [IntKind.wrap_i64]; omega
theorem map_get {l : List StepD} {i : Nat} (h : i < l.length) : (l.map scell)[i]? = some (scell l[i]) := by simp [h]
/-- Equal steps are told to be the same. -/
theorem same_steps (hro : RoadS Z E0 s) {A : ASt} {S1 S2 : Nat → Prop} {v1 v2 : Value} {l : List StepD} (h1 : Steps (withRo E0 s) A S1 v1 l) (h2 : Steps (withRo E0 s) A S2 v2 l) (hl : l.length ≤ 1000) :
    CallW Z Tryd.prog 20 [v1, v2] A (fun r A' => r = .bool true ∧ Fr [] A A') := by
  refine CallW.of_code (withRo_ok E0_ok) hro.ro (f := 20) (fn := Tryd.f20) fn20 rfl (n := 26) rfl (rs := [.tmp 4]) rfl (by simp) (codeW_ok (withRo_ok E0_ok) hro.ro ?_)
  have l1 := h1.len (wti.trans ti23) t23_desc
  have l2 := h2.len (wti.trans ti23) t23_desc
  simp only [wlen, List.length_map] at l1 l2
  have fne : ∀ q : Int, (q ≠ q) = False := fun q => eq_false (by simp)
  simp only [w_w, oneW_next, s_0, s_1, s_2, s_3, s_4, g_0, w_0, w_a, Hands, handsV, resultsV, oneOrTuple, argsT, ev, evs, evPairs, evOpt, closed, flat, nth, aCall, aEnter, notYield, aNilCheck, partV, isAggD, aFieldAddr, aField, aExtract, Option.isNone, aBuiltin, aUn, cond_true, cond_false, cond_dec, if_true, if_false, List.length_cons, List.length_nil, forall_const, implies_true, List.append_nil, List.cons_append, List.nil_append, eq_self, Nat.reduceEqDiff, Nat.reduceAdd, Nat.reduceMul, Nat.reduceSub, Nat.reduceLT, Nat.reduceLeDiff, Nat.reduceBEq, reduceIte, reduceCtorEq, l1, l2, fne]
  refine CodeW.mono (Q := fun o => ∃ T' A', o = .fr ⟨.exit 0, T', A'⟩ ∧ Fr [] A A') ?_ ?_
  · refine CodeW.loopR (k := l.length) (fun n T A' => ∃ i, n = l.length - i ∧ i ≤ l.length ∧ tget T 5 = .int .i64 ((i : Nat) : Int) ∧ tget T 0 = v1 ∧ tget T 1 = v2 ∧ Fr [] A A') ?_ ⟨0, rfl, by omega, ?_, ?_, ?_, .refl _ _⟩
    · rintro n T A1 ⟨i, rfl, hi, u5, u0, u1, hf⟩
      refine codeW_ok (withRo_ok E0_ok) hro.ro ?_
      by_cases e1 : i < l.length
      · have d1 : ((i : Int) < (l.length : Int)) = True := eq_true (by omega)
        have g1 := h1.fr hf (by simp)
        have g2 := h2.fr hf (by simp)
        obtain ⟨b1, p1, c1, hx1, hc1, _, _, hcut1, _⟩ := g1.ix (wti.trans ti23) t23_desc (wti.trans ti36) t36_size (map_get e1)
        obtain ⟨b2, p2, c2, hx2, hc2, _, _, hcut2, _⟩ := g2.ix (wti.trans ti23) t23_desc (wti.trans ti36) t36_size (map_get e1)
        simp only [wix] at hx1 hx2
        have k1 := h1.ve
        have k2 := h2.ve
        have vs : valEq (.agg #[.int .i64 l[i].kind, .string l[i].key, .string l[i].val, .int .i64 l[i].n]) (.agg #[.int .i64 l[i].kind, .string l[i].key, .string l[i].val, .int .i64 l[i].n]) = true := by
          simp [valEq, vEq, vStep, flatEq, lEq, bytesEq_iff]
        simp only [scell] at hcut1 hcut2
        simp only [w_w, oneW_next, s_0, s_1, s_2, s_3, s_4, g_0, w_0, w_a, Hands, handsV, resultsV, oneOrTuple, argsT, ev, evs, evPairs, evOpt, closed, flat, nth, aCall, aEnter, notYield, aNilCheck, partV, isAggD, aFieldAddr, aField, aExtract, Option.isNone, aBuiltin, aUn, cond_true, cond_false, cond_dec, if_true, if_false, List.length_cons, List.length_nil, forall_const, implies_true, List.append_nil, List.cons_append, List.nil_append, eq_self, Nat.reduceEqDiff, Nat.reduceAdd, Nat.reduceMul, Nat.reduceSub, Nat.reduceLT, Nat.reduceLeDiff, Nat.reduceBEq, reduceIte, reduceCtorEq, u5, u0, l1, d1]
        refine CodeW.quiet (withRo_ok E0_ok) hro.ro mixed (by kernel_rfl) (by kernel_rfl) ?_
        rcases hc1 with ⟨a1, r1⟩ | ⟨⟨_, _, a1⟩, r1⟩ <;> rcases hc2 with ⟨a2, r2⟩ | ⟨⟨_, _, a2⟩, r2⟩ <;>
        · simp only [w_w, oneW_next, s_0, s_1, s_2, s_3, s_4, g_0, w_0, w_a, Hands, handsV, resultsV, oneOrTuple, argsT, ev, evs, evPairs, evOpt, closed, flat, nth, aCall, aEnter, notYield, aNilCheck, partV, isAggD, aFieldAddr, aField, aExtract, Option.isNone, aBuiltin, aUn, cond_true, cond_false, cond_dec, if_true, if_false, List.length_cons, List.length_nil, forall_const, implies_true, List.append_nil, List.cons_append, List.nil_append, eq_self, Nat.reduceEqDiff, Nat.reduceAdd, Nat.reduceMul, Nat.reduceSub, Nat.reduceLT, Nat.reduceLeDiff, Nat.reduceBEq, reduceIte, reduceCtorEq, quietW_nil, quietW_arr, quietW_cons, aStill, freshOp, quietOp, E0_ron, get_empty, get_next, ofVal_none, valEq_int, valEq_str, valEq_bool, valEq_map, valEq_ptr, valEq_slice, valEq_nilSlice, valEq_mapNil, List.length_cons, List.length_nil, u5, u0, u1, hx1, hx2, a1, a2, r1, r2, hcut1, hcut2, k1, k2, vs, neqStep, wrap_succ (show i < 1000000 by omega)]
          exact ⟨l.length - (i + 1), by omega, i + 1, rfl, by omega, rfl, hf.trans (Fr.bump (by omega))⟩
      · have d1 : ((i : Int) < (l.length : Int)) = False := eq_false (by omega)
        simp only [w_w, oneW_next, s_0, s_1, s_2, s_3, s_4, g_0, w_0, w_a, Hands, handsV, resultsV, oneOrTuple, argsT, ev, evs, evPairs, evOpt, closed, flat, nth, aCall, aEnter, notYield, aNilCheck, partV, isAggD, aFieldAddr, aField, aExtract, Option.isNone, aBuiltin, aUn, cond_true, cond_false, cond_dec, if_true, if_false, List.length_cons, List.length_nil, forall_const, implies_true, List.append_nil, List.cons_append, List.nil_append, eq_self, Nat.reduceEqDiff, Nat.reduceAdd, Nat.reduceMul, Nat.reduceSub, Nat.reduceLT, Nat.reduceLeDiff, Nat.reduceBEq, reduceIte, reduceCtorEq, u5, u0, l1, d1]
        exact ⟨_, _, rfl, hf⟩
    all_goals simp only [tget_put, Nat.reduceEqDiff, if_false, if_true, reduceIte, and_self]
    all_goals rfl
  · rintro o ⟨T', A', rfl, hf⟩
    simp only [w_w, oneW_next, s_0, s_1, s_2, s_3, s_4, g_0, w_0, w_a, Hands, handsV, resultsV, oneOrTuple, argsT, ev, evs, evPairs, evOpt, closed, flat, nth, aCall, aEnter, notYield, aNilCheck, partV, isAggD, aFieldAddr, aField, aExtract, Option.isNone, aBuiltin, aUn, cond_true, cond_false, cond_dec, if_true, if_false, List.length_cons, List.length_nil, forall_const, implies_true, List.append_nil, List.cons_append, List.nil_append, eq_self, Nat.reduceEqDiff, Nat.reduceAdd, Nat.reduceMul, Nat.reduceSub, Nat.reduceLT, Nat.reduceLeDiff, Nat.reduceBEq, reduceIte, reduceCtorEq]
    exact hf
/-- Equal timers are told to be the same. -/
theorem same_tim (hro : RoadS Z E0 s) {A : ASt} {S1 S2 : Nat → Prop} {t : TimD} {v1 v2 : Value} (h1 : Steps (withRo E0 s) A S1 v1 t.steps) (h2 : Steps (withRo E0 s) A S2 v2 t.steps) (hl : t.steps.length ≤ 1000) :
    CallW Z Tryd.prog 9 [tval t v1, tval t v2] A (fun r A' => r = .bool true ∧ Fr [] A A') := by
  refine CallW.of_code (withRo_ok E0_ok) hro.ro (f := 9) (fn := Tryd.f9) fn9 rfl (n := 40) rfl (rs := [.tmp 4]) rfl (by simp) (codeW_ok (withRo_ok E0_ok) hro.ro ?_)
  simp only [w_w, oneW_next, s_0, s_1, s_2, s_3, s_4, g_0, w_0, w_a, Hands, handsV, resultsV, oneOrTuple, argsT, ev, evs, evPairs, evOpt, closed, flat, nth, aCall, aEnter, notYield, aNilCheck, partV, isAggD, aFieldAddr, aField, aExtract, Option.isNone, aBuiltin, aUn, cond_true, cond_false, cond_dec, if_true, if_false, List.length_cons, List.length_nil, forall_const, implies_true, List.append_nil, List.cons_append, List.nil_append, eq_self, Nat.reduceEqDiff, Nat.reduceAdd, Nat.reduceMul, Nat.reduceSub, Nat.reduceLT, Nat.reduceLeDiff, Nat.reduceBEq, reduceIte, reduceCtorEq, tval, box25, ptrTo]
  generalize hC : ASt.new (ASt.new A _) _ = C
  obtain ⟨c1, c2, hn, hf⟩ := two_new hC
  clear hC
  refine CallT.mono (same_steps hro (h1.fr hf (by simp)) (h2.fr hf (by simp)) hl) ?_
  rintro _ D ⟨rfl, hf2⟩
  have d1 := (hf2.get _ (by omega) (by simp)).trans c1
  have d2 := (hf2.get _ (by omega) (by simp)).trans c2
  simp only [w_w, oneW_next, s_0, s_1, s_2, s_3, s_4, g_0, w_0, w_a, Hands, handsV, resultsV, oneOrTuple, argsT, ev, evs, evPairs, evOpt, closed, flat, nth, aCall, aEnter, notYield, aNilCheck, partV, isAggD, aFieldAddr, aField, aExtract, Option.isNone, aBuiltin, aUn, cond_true, cond_false, cond_dec, if_true, if_false, List.length_cons, List.length_nil, forall_const, implies_true, List.append_nil, List.cons_append, List.nil_append, eq_self, Nat.reduceEqDiff, Nat.reduceAdd, Nat.reduceMul, Nat.reduceSub, Nat.reduceLT, Nat.reduceLeDiff, Nat.reduceBEq, reduceIte, reduceCtorEq, d1, d2, b_seql]
  exact hf.trans hf2

/-- Few steps, and short texts. -/
theorem fits_spec (hro : RoadS Z E0 s) {A : ASt} {S1 : Nat → Prop} {t : TimD} {v1 : Value} (h1 : Steps (withRo E0 s) A S1 v1 t.steps) :
    CallW Z Tryd.prog 5 [tval t v1] A (fun r A' => (∃ b, r = .bool b ∧ (b = true → t.steps.length ≤ 10 ∧ t.name.size ≤ 100 ∧ ∀ y ∈ t.steps, y.key.size ≤ 100 ∧ y.val.size ≤ 100)) ∧ Fr [] A A') := by
  refine CallW.of_code (withRo_ok E0_ok) hro.ro (f := 5) (fn := Tryd.f5) fn5 rfl (n := 37) rfl (rs := [.tmp 2]) rfl (by simp) (codeW_ok (withRo_ok E0_ok) hro.ro ?_)
  have l1 := h1.len (wti.trans ti23) t23_desc
  simp only [wlen, List.length_map] at l1
  have ls : ∀ (k : ByteArray) (B : ASt), aLen E0 9 (.string k) B = some (.int .i64 (k.size : Int)) := fun k B => len_str ti9 t9_desc
  simp only [w_w, oneW_next, s_0, s_1, s_2, s_3, s_4, g_0, w_0, w_a, Hands, handsV, resultsV, oneOrTuple, argsT, ev, evs, evPairs, evOpt, closed, flat, nth, aCall, aEnter, notYield, aNilCheck, partV, isAggD, aFieldAddr, aField, aExtract, Option.isNone, aBuiltin, aUn, cond_true, cond_false, cond_dec, if_true, if_false, List.length_cons, List.length_nil, forall_const, implies_true, List.append_nil, List.cons_append, List.nil_append, eq_self, Nat.reduceEqDiff, Nat.reduceAdd, Nat.reduceMul, Nat.reduceSub, Nat.reduceLT, Nat.reduceLeDiff, Nat.reduceBEq, reduceIte, reduceCtorEq, tval, box25, ptrTo]
  generalize hC : ASt.new A _ = C
  have c1 : C.get A.next = some (.row [.string t.name, .int .i64 t.ver, .int .u64 (t.at_ : Int), .int .u64 (t.every : Int), v1] 5 false) := by rw [← hC, ASt.get_new, if_pos rfl]
  have hf : Fr [] A C := by rw [← hC]; exact .new
  clear hC
  have g1 := h1.fr hf (by simp)
  refine CodeW.mono (Q := fun o => (∃ T', o = .fr ⟨.ret, T', C⟩ ∧ tget T' 2 = .bool false) ∨ ∃ T', o = .fr ⟨.exit 0, T', C⟩ ∧ tget T' 1 = .pointer (some ⟨A.next, 0, none⟩) ∧ t.steps.length ≤ 10 ∧ ∀ y ∈ t.steps, y.key.size ≤ 100 ∧ y.val.size ≤ 100) ?_ ?_
  · refine CodeW.loopR (k := 11) (fun n T A' => ∃ i, n = 11 - i ∧ i ≤ 10 ∧ i ≤ t.steps.length ∧ tget T 3 = .int .i64 ((i : Nat) : Int) ∧ tget T 1 = .pointer (some ⟨A.next, 0, none⟩) ∧ (∀ y ∈ t.steps.take i, y.key.size ≤ 100 ∧ y.val.size ≤ 100) ∧ A' = C) ?_ ⟨0, rfl, by omega, by omega, ?_, ?_, by simp, rfl⟩
    · rintro n T A1 ⟨i, rfl, hi, hil, u3, u1, hall, rfl⟩
      refine codeW_ok (withRo_ok E0_ok) hro.ro ?_
      by_cases e1 : i < t.steps.length
      · have d1 : ((i : Int) < (t.steps.length : Int)) = True := eq_true (by omega)
        by_cases e2 : i = 10
        · have d2 : ((i : Int) = 10) = True := eq_true (by omega)
          simp only [w_w, oneW_next, s_0, s_1, s_2, s_3, s_4, g_0, w_0, w_a, Hands, handsV, resultsV, oneOrTuple, argsT, ev, evs, evPairs, evOpt, closed, flat, nth, aCall, aEnter, notYield, aNilCheck, partV, isAggD, aFieldAddr, aField, aExtract, Option.isNone, aBuiltin, aUn, cond_true, cond_false, cond_dec, if_true, if_false, List.length_cons, List.length_nil, forall_const, implies_true, List.append_nil, List.cons_append, List.nil_append, eq_self, Nat.reduceEqDiff, Nat.reduceAdd, Nat.reduceMul, Nat.reduceSub, Nat.reduceLT, Nat.reduceLeDiff, Nat.reduceBEq, reduceIte, reduceCtorEq, u3, u1, c1, l1, d1, d2, undef]
          exact .inl ⟨_, rfl, by simp only [tget_put, Nat.reduceEqDiff, if_false, if_true, reduceIte]⟩
        · have d2 : ((i : Int) = 10) = False := eq_false (by omega)
          obtain ⟨b, p, c, hx, hc, _, _, _, hnth⟩ := g1.ix (wti.trans ti23) t23_desc (wti.trans ti36) t36_size (map_get e1)
          simp only [wix] at hx
          have hcg := hc.g
          have n1 := hnth 1 _ rfl
          have n2 := hnth 2 _ rfl
          by_cases e3 : t.steps[i].key.size > 100
          · have d3 : (((t.steps[i].key.size : Nat) : Int) > 100) = True := eq_true (by omega)
            simp only [w_w, oneW_next, s_0, s_1, s_2, s_3, s_4, g_0, w_0, w_a, Hands, handsV, resultsV, oneOrTuple, argsT, ev, evs, evPairs, evOpt, closed, flat, nth, aCall, aEnter, notYield, aNilCheck, partV, isAggD, aFieldAddr, aField, aExtract, Option.isNone, aBuiltin, aUn, cond_true, cond_false, cond_dec, if_true, if_false, List.length_cons, List.length_nil, forall_const, implies_true, List.append_nil, List.cons_append, List.nil_append, eq_self, Nat.reduceEqDiff, Nat.reduceAdd, Nat.reduceMul, Nat.reduceSub, Nat.reduceLT, Nat.reduceLeDiff, Nat.reduceBEq, reduceIte, reduceCtorEq, u3, u1, c1, l1, d1, d2, hx, hcg, n1, ls, d3, undef]
            exact .inl ⟨_, rfl, by simp only [tget_put, Nat.reduceEqDiff, if_false, if_true, reduceIte]⟩
          · have d3 : (((t.steps[i].key.size : Nat) : Int) > 100) = False := eq_false (by omega)
            by_cases e4 : t.steps[i].val.size > 100
            · have d4 : (((t.steps[i].val.size : Nat) : Int) > 100) = True := eq_true (by omega)
              simp only [w_w, oneW_next, s_0, s_1, s_2, s_3, s_4, g_0, w_0, w_a, Hands, handsV, resultsV, oneOrTuple, argsT, ev, evs, evPairs, evOpt, closed, flat, nth, aCall, aEnter, notYield, aNilCheck, partV, isAggD, aFieldAddr, aField, aExtract, Option.isNone, aBuiltin, aUn, cond_true, cond_false, cond_dec, if_true, if_false, List.length_cons, List.length_nil, forall_const, implies_true, List.append_nil, List.cons_append, List.nil_append, eq_self, Nat.reduceEqDiff, Nat.reduceAdd, Nat.reduceMul, Nat.reduceSub, Nat.reduceLT, Nat.reduceLeDiff, Nat.reduceBEq, reduceIte, reduceCtorEq, u3, u1, c1, l1, d1, d2, hx, hcg, n1, n2, ls, d3, d4, undef]
              exact .inl ⟨_, rfl, by simp only [tget_put, Nat.reduceEqDiff, if_false, if_true, reduceIte]⟩
            · have d4 : (((t.steps[i].val.size : Nat) : Int) > 100) = False := eq_false (by omega)
              simp only [w_w, oneW_next, s_0, s_1, s_2, s_3, s_4, g_0, w_0, w_a, Hands, handsV, resultsV, oneOrTuple, argsT, ev, evs, evPairs, evOpt, closed, flat, nth, aCall, aEnter, notYield, aNilCheck, partV, isAggD, aFieldAddr, aField, aExtract, Option.isNone, aBuiltin, aUn, cond_true, cond_false, cond_dec, if_true, if_false, List.length_cons, List.length_nil, forall_const, implies_true, List.append_nil, List.cons_append, List.nil_append, eq_self, Nat.reduceEqDiff, Nat.reduceAdd, Nat.reduceMul, Nat.reduceSub, Nat.reduceLT, Nat.reduceLeDiff, Nat.reduceBEq, reduceIte, reduceCtorEq, u3, u1, c1, l1, d1, d2, hx, hcg, n1, n2, ls, d3, d4, undef, wrap_succ (show i < 1000000 by omega)]
              refine ⟨11 - (i + 1), by omega, i + 1, rfl, by omega, by omega, rfl, ?_⟩
              intro y hy
              rw [List.take_add_one, List.getElem?_eq_getElem e1] at hy
              rcases List.mem_append.1 hy with hy | hy
              · exact hall y hy
              · simp only [Option.toList, List.mem_singleton] at hy
                subst hy
                exact ⟨by omega, by omega⟩
      · have d1 : ((i : Int) < (t.steps.length : Int)) = False := eq_false (by omega)
        simp only [w_w, oneW_next, s_0, s_1, s_2, s_3, s_4, g_0, w_0, w_a, Hands, handsV, resultsV, oneOrTuple, argsT, ev, evs, evPairs, evOpt, closed, flat, nth, aCall, aEnter, notYield, aNilCheck, partV, isAggD, aFieldAddr, aField, aExtract, Option.isNone, aBuiltin, aUn, cond_true, cond_false, cond_dec, if_true, if_false, List.length_cons, List.length_nil, forall_const, implies_true, List.append_nil, List.cons_append, List.nil_append, eq_self, Nat.reduceEqDiff, Nat.reduceAdd, Nat.reduceMul, Nat.reduceSub, Nat.reduceLT, Nat.reduceLeDiff, Nat.reduceBEq, reduceIte, reduceCtorEq, u3, u1, c1, l1, d1]
        rw [List.take_of_length_le (by omega)] at hall
        exact .inr ⟨_, rfl, by simp only [tget_put, Nat.reduceEqDiff, if_false, if_true, reduceIte, u1], by omega, hall⟩
    all_goals simp only [tget_put, Nat.reduceEqDiff, if_false, if_true, reduceIte, and_self]
    all_goals rfl
  · rintro o (⟨T', rfl, u2⟩ | ⟨T', rfl, u1, hlen, hall⟩)
    · simp only [w_w, oneW_next, s_0, s_1, s_2, s_3, s_4, g_0, w_0, w_a, Hands, handsV, resultsV, oneOrTuple, argsT, ev, evs, evPairs, evOpt, closed, flat, nth, aCall, aEnter, notYield, aNilCheck, partV, isAggD, aFieldAddr, aField, aExtract, Option.isNone, aBuiltin, aUn, cond_true, cond_false, cond_dec, if_true, if_false, List.length_cons, List.length_nil, forall_const, implies_true, List.append_nil, List.cons_append, List.nil_append, eq_self, Nat.reduceEqDiff, Nat.reduceAdd, Nat.reduceMul, Nat.reduceSub, Nat.reduceLT, Nat.reduceLeDiff, Nat.reduceBEq, reduceIte, reduceCtorEq, u2]
      exact ⟨⟨false, rfl, by simp⟩, hf⟩
    · simp only [w_w, oneW_next, s_0, s_1, s_2, s_3, s_4, g_0, w_0, w_a, Hands, handsV, resultsV, oneOrTuple, argsT, ev, evs, evPairs, evOpt, closed, flat, nth, aCall, aEnter, notYield, aNilCheck, partV, isAggD, aFieldAddr, aField, aExtract, Option.isNone, aBuiltin, aUn, cond_true, cond_false, cond_dec, if_true, if_false, List.length_cons, List.length_nil, forall_const, implies_true, List.append_nil, List.cons_append, List.nil_append, eq_self, Nat.reduceEqDiff, Nat.reduceAdd, Nat.reduceMul, Nat.reduceSub, Nat.reduceLT, Nat.reduceLeDiff, Nat.reduceBEq, reduceIte, reduceCtorEq, u1, c1, ls]
      exact ⟨⟨_, rfl, fun hb => ⟨hlen, by have := of_decide_eq_true hb; omega, hall⟩⟩, hf⟩
end Go.Proofs.YtgcffmhpjphefaaDoor

/- The live question, wherever it is asked. -/
namespace Go.Proofs.YtgcffmhpjphefaaDoor
open Go Go.AE

variable {Z : Go.AE.Road}

theorem alive_run0 : ends isTrueV (run E0 20000 (.call (.fn 6) [] (startAt 0))) = true := by kernel_rfl
theorem alive_run : ∃ fuel, ends isTrueV (run E0 fuel (.call (.fn 6) [] (startAt 0))) = true := ⟨20000, alive_run0⟩

theorem alive_calls (w : World) : Calls Tryd.prog 6 #[] w fun e w' => e = .returned (.bool true) ∧ Go.RowKit.Below w.heap.size w w' ∧ w.drawn ≤ w'.drawn := by
  obtain ⟨fuel, hrun⟩ := alive_run
  have hall : (callBy (run E0 fuel) (.fn 6) [] (startAt 0)).all (fun r => isTrueV r.1 = true) := by
    have := ends_all hrun
    unfold callBy
    revert this
    generalize run E0 fuel (.call (.fn 6) [] (startAt 0)) = m
    intro this
    induction m with
    | ret o =>
      obtain ⟨v, A, rfl, hq⟩ := this
      exact hq
    | ask n k ih => exact fun i hi => ih i (this i hi)
    | fail s => exact this.elim
    | pick p k ih => exact fun r hr => ih r (this r hr)
  have h := CallW.of_run (Z := roadRaw [] w) (f := 6) (args := []) (A := startAt 0) (Q := fun v _ => isTrueV v = true) E0_ok E0_ro hook_none mixed hall
  refine (h (rawRen []) w #[] (Step.refl (rep_start [] w)) .nil).mono ?_
  rintro e w' ⟨v, A', v', ρ', hq, rfl, hv, hst⟩
  refine ⟨?_, Step.below (n := 0) hst, hst.drawn⟩
  cases hv <;> first | (simp [isTrueV] at hq; done) | skip
  rename_i b
  cases b with
  | true => rfl
  | false => cases hq

theorem alive_spec {A : ASt} : CallW Z Tryd.prog 6 [] A (fun v A' => v = .bool true ∧ A' = A) := by
  intro ρ w args' hR ha
  obtain ⟨l⟩ := args'
  cases ha
  refine (alive_calls w).mono ?_
  rintro e w' ⟨rfl, hb, hd⟩
  exact ⟨.bool true, A, .bool true, ρ, ⟨rfl, rfl⟩, rfl, .bool _, Step.of_below (Z.rep hR) hb hd⟩
end Go.Proofs.YtgcffmhpjphefaaDoor

/- TimersAfter: the walk. -/
namespace Go.Proofs.YtgcffmhpjphefaaDoor
open Go Go.AE
set_option maxRecDepth 10000
set_option maxHeartbeats 4000000
variable {Z : Go.AE.Road} {s : Spans}

theorem nxt_spec {a e t x : Nat} (h : nxt a e t = some x) : t < x ∧ a ≤ x ∧ rst a e x = 0 := by
  unfold nxt at h
  split at h
  · rename_i hl
    cases h
    refine ⟨hl, Nat.le_refl _, ?_⟩
    unfold rst
    rw [if_neg (Nat.lt_irrefl _)]
    split
    · omega
    · simp
  · rename_i hl
    split at h
    · cases h
    · rename_i h0
      split at h
      · cases h
      · cases h
        have hr : rst a e t = (t - a) % e := by simp [rst, hl, h0]
        have hm : (t - a) % e < e := Nat.mod_lt _ (by omega)
        have hd : e * ((t - a) / e) + (t - a) % e = t - a := Nat.div_add_mod _ _
        rw [hr]
        refine ⟨by omega, by omega, ?_⟩
        have hx : t - (t - a) % e + e - a = e * ((t - a) / e + 1) := by rw [Nat.mul_add, Nat.mul_one]; omega
        unfold rst
        rw [if_neg (by omega), if_neg h0, hx]
        exact Nat.mul_mod_right _ _
theorem aft_some {t u : TimD} {now : Nat} (h : aft t now = some u) : u = { t with at_ := u.at_ } ∧ u.at_ ≤ 4611686018427387904 ∧ now < u.at_ ∧ t.at_ ≤ u.at_ ∧ rst t.at_ t.every u.at_ = 0 := by
  unfold aft at h
  cases hx : nxt t.at_ t.every now with
  | none => rw [hx] at h; cases h
  | some x =>
    rw [hx] at h
    simp only at h
    split at h
    · cases h
    · rename_i hlt
      cases h
      obtain ⟨h1, h2, h3⟩ := nxt_spec hx
      exact ⟨rfl, Nat.le_of_not_lt hlt, h1, h2, h3⟩
theorem aft_none {t : TimD} {now : Nat} (h : aft t now = none) : ¬ (now < t.at_ ∧ t.at_ ≤ 4611686018427387904) := by
  rintro ⟨h1, h2⟩
  unfold aft at h
  have hx : nxt t.at_ t.every now = some t.at_ := by simp [nxt, h1]
  rw [hx] at h
  simp only at h
  rw [if_neg (by omega)] at h
  cases h
/-- From one firing to the next. -/
theorem aft_self {t : TimD} : aft t t.at_ = if 0 < t.every ∧ t.at_ ≤ 4611686018427387904 ∧ t.every ≤ 4611686018427387904 - t.at_ then some { t with at_ := t.at_ + t.every } else none := by
  have hr : rst t.at_ t.every t.at_ = 0 := by
    unfold rst
    rw [if_neg (Nat.lt_irrefl _)]
    split
    · omega
    · simp
  unfold aft nxt
  rw [if_neg (Nat.lt_irrefl _), hr, Nat.sub_zero]
  by_cases h0 : t.every = 0
  · rw [if_pos h0, if_neg (by omega)]
  · rw [if_neg h0]
    by_cases h1 : 18446744073709551616 ≤ t.at_ + t.every
    · rw [if_pos h1, if_neg (by omega)]
    · rw [if_neg h1]
      simp only
      by_cases h2 : 4611686018427387904 < t.at_ + t.every
      · rw [if_pos h2, if_neg (by omega)]
      · rw [if_neg h2, if_pos (by omega)]

theorem after_walk (hro : RoadS Z E0 s) {A : ASt} {S : Nat → Prop} {t : TimD} {dv : Value} {now : Nat} {n : Int} (h : Steps (withRo E0 s) A S dv t.steps) (ha : t.at_ < 18446744073709551616) (he : t.every < 18446744073709551616) (hn : now < 18446744073709551616) :
    CallW Z Tryd.prog 3 [tval t dv, .int .u64 (now : Int), .int .i64 n] A (fun r _ => r = .bool true) := by
  refine CallW.of_code (withRo_ok E0_ok) hro.ro (f := 3) (fn := Tryd.f3) fn3 rfl (n := 121) rfl (rs := [.tmp 6]) rfl (by simp) (codeW_ok (withRo_ok E0_ok) hro.ro ?_)
  simp only [w_w, oneW_next, s_0, s_1, s_2, s_3, s_4, g_0, w_0, w_a, Hands, handsV, resultsV, oneOrTuple, argsT, ev, evs, evPairs, evOpt, closed, flat, nth, aCall, aEnter, notYield, aNilCheck, partV, isAggD, aFieldAddr, aField, aExtract, Option.isNone, aBuiltin, aUn, cond_true, cond_false, cond_dec, if_true, if_false, List.length_cons, List.length_nil, forall_const, implies_true, List.append_nil, List.cons_append, List.nil_append, eq_self, Nat.reduceEqDiff, Nat.reduceAdd, Nat.reduceMul, Nat.reduceSub, Nat.reduceLT, Nat.reduceLeDiff, Nat.reduceBEq, reduceIte, reduceCtorEq, tval, box25, ptrTo]
  generalize hC : ASt.new A _ = C
  have c1 : C.get A.next = some (.row [.string t.name, .int .i64 t.ver, .int .u64 (t.at_ : Int), .int .u64 (t.every : Int), dv] 5 false) := by rw [← hC, ASt.get_new, if_pos rfl]
  have hf : Fr [] A C := by rw [← hC]; exact .new
  have hCn : C.next = A.next + 1 := by rw [← hC, ASt.next_new]
  clear hC
  simp only [w_w, oneW_next, s_0, s_1, s_2, s_3, s_4, g_0, w_0, w_a, Hands, handsV, resultsV, oneOrTuple, argsT, ev, evs, evPairs, evOpt, closed, flat, nth, aCall, aEnter, notYield, aNilCheck, partV, isAggD, aFieldAddr, aField, aExtract, Option.isNone, aBuiltin, aUn, cond_true, cond_false, cond_dec, if_true, if_false, List.length_cons, List.length_nil, forall_const, implies_true, List.append_nil, List.cons_append, List.nil_append, eq_self, Nat.reduceEqDiff, Nat.reduceAdd, Nat.reduceMul, Nat.reduceSub, Nat.reduceLT, Nat.reduceLeDiff, Nat.reduceBEq, reduceIte, reduceCtorEq, c1, cut5]
  refine CallT.mono (fits_spec (t := t) hro (h.fr hf (by simp))) ?_
  rintro _ D ⟨⟨b, rfl, hb⟩, hf2⟩
  have d1 := (hf2.get _ (by omega) (by simp)).trans c1
  cases b with
  | false =>
    simp only [w_w, oneW_next, s_0, s_1, s_2, s_3, s_4, g_0, w_0, w_a, Hands, handsV, resultsV, oneOrTuple, argsT, ev, evs, evPairs, evOpt, closed, flat, nth, aCall, aEnter, notYield, aNilCheck, partV, isAggD, aFieldAddr, aField, aExtract, Option.isNone, aBuiltin, aUn, cond_true, cond_false, cond_dec, if_true, if_false, List.length_cons, List.length_nil, forall_const, implies_true, List.append_nil, List.cons_append, List.nil_append, eq_self, Nat.reduceEqDiff, Nat.reduceAdd, Nat.reduceMul, Nat.reduceSub, Nat.reduceLT, Nat.reduceLeDiff, Nat.reduceBEq, reduceIte, reduceCtorEq, undef]
    refine CallT.mono alive_spec ?_
    rintro _ _ ⟨rfl, rfl⟩
    simp only [w_w, oneW_next, s_0, s_1, s_2, s_3, s_4, g_0, w_0, w_a, Hands, handsV, resultsV, oneOrTuple, argsT, ev, evs, evPairs, evOpt, closed, flat, nth, aCall, aEnter, notYield, aNilCheck, partV, isAggD, aFieldAddr, aField, aExtract, Option.isNone, aBuiltin, aUn, cond_true, cond_false, cond_dec, if_true, if_false, List.length_cons, List.length_nil, forall_const, implies_true, List.append_nil, List.cons_append, List.nil_append, eq_self, Nat.reduceEqDiff, Nat.reduceAdd, Nat.reduceMul, Nat.reduceSub, Nat.reduceLT, Nat.reduceLeDiff, Nat.reduceBEq, reduceIte, reduceCtorEq]
  | true =>
  obtain ⟨hlen, _⟩ := hb rfl
  by_cases n1 : n < 0
  · have e1 : (n < 0) = True := eq_true n1
    simp only [w_w, oneW_next, s_0, s_1, s_2, s_3, s_4, g_0, w_0, w_a, Hands, handsV, resultsV, oneOrTuple, argsT, ev, evs, evPairs, evOpt, closed, flat, nth, aCall, aEnter, notYield, aNilCheck, partV, isAggD, aFieldAddr, aField, aExtract, Option.isNone, aBuiltin, aUn, cond_true, cond_false, cond_dec, if_true, if_false, List.length_cons, List.length_nil, forall_const, implies_true, List.append_nil, List.cons_append, List.nil_append, eq_self, Nat.reduceEqDiff, Nat.reduceAdd, Nat.reduceMul, Nat.reduceSub, Nat.reduceLT, Nat.reduceLeDiff, Nat.reduceBEq, reduceIte, reduceCtorEq, e1, undef]
    refine CallT.mono alive_spec ?_
    rintro _ _ ⟨rfl, rfl⟩
    simp only [w_w, oneW_next, s_0, s_1, s_2, s_3, s_4, g_0, w_0, w_a, Hands, handsV, resultsV, oneOrTuple, argsT, ev, evs, evPairs, evOpt, closed, flat, nth, aCall, aEnter, notYield, aNilCheck, partV, isAggD, aFieldAddr, aField, aExtract, Option.isNone, aBuiltin, aUn, cond_true, cond_false, cond_dec, if_true, if_false, List.length_cons, List.length_nil, forall_const, implies_true, List.append_nil, List.cons_append, List.nil_append, eq_self, Nat.reduceEqDiff, Nat.reduceAdd, Nat.reduceMul, Nat.reduceSub, Nat.reduceLT, Nat.reduceLeDiff, Nat.reduceBEq, reduceIte, reduceCtorEq]
  have e1 : (n < 0) = False := eq_false n1
  by_cases n2 : n > 20
  · have e2 : (n > 20) = True := eq_true n2
    simp only [w_w, oneW_next, s_0, s_1, s_2, s_3, s_4, g_0, w_0, w_a, Hands, handsV, resultsV, oneOrTuple, argsT, ev, evs, evPairs, evOpt, closed, flat, nth, aCall, aEnter, notYield, aNilCheck, partV, isAggD, aFieldAddr, aField, aExtract, Option.isNone, aBuiltin, aUn, cond_true, cond_false, cond_dec, if_true, if_false, List.length_cons, List.length_nil, forall_const, implies_true, List.append_nil, List.cons_append, List.nil_append, eq_self, Nat.reduceEqDiff, Nat.reduceAdd, Nat.reduceMul, Nat.reduceSub, Nat.reduceLT, Nat.reduceLeDiff, Nat.reduceBEq, reduceIte, reduceCtorEq, e1, e2, undef]
    refine CallT.mono alive_spec ?_
    rintro _ _ ⟨rfl, rfl⟩
    simp only [w_w, oneW_next, s_0, s_1, s_2, s_3, s_4, g_0, w_0, w_a, Hands, handsV, resultsV, oneOrTuple, argsT, ev, evs, evPairs, evOpt, closed, flat, nth, aCall, aEnter, notYield, aNilCheck, partV, isAggD, aFieldAddr, aField, aExtract, Option.isNone, aBuiltin, aUn, cond_true, cond_false, cond_dec, if_true, if_false, List.length_cons, List.length_nil, forall_const, implies_true, List.append_nil, List.cons_append, List.nil_append, eq_self, Nat.reduceEqDiff, Nat.reduceAdd, Nat.reduceMul, Nat.reduceSub, Nat.reduceLT, Nat.reduceLeDiff, Nat.reduceBEq, reduceIte, reduceCtorEq]
  have e2 : (n > 20) = False := eq_false n2
  simp only [w_w, oneW_next, s_0, s_1, s_2, s_3, s_4, g_0, w_0, w_a, Hands, handsV, resultsV, oneOrTuple, argsT, ev, evs, evPairs, evOpt, closed, flat, nth, aCall, aEnter, notYield, aNilCheck, partV, isAggD, aFieldAddr, aField, aExtract, Option.isNone, aBuiltin, aUn, cond_true, cond_false, cond_dec, if_true, if_false, List.length_cons, List.length_nil, forall_const, implies_true, List.append_nil, List.cons_append, List.nil_append, eq_self, Nat.reduceEqDiff, Nat.reduceAdd, Nat.reduceMul, Nat.reduceSub, Nat.reduceLT, Nat.reduceLeDiff, Nat.reduceBEq, reduceIte, reduceCtorEq, e1, e2, d1, cut5]
  have hf12 := hf.trans hf2
  have hDn := hf2.next
  refine CallT.mono (after_spec hro (t := t) (h.fr hf12 (by simp)) (by omega) ha he hn) ?_
  rintro _ G ⟨du, rfl, hsu, hf3⟩
  have hGn := hf3.next
  have g1 := (hf3.get _ (by omega) (by simp)).trans d1
  have hu : ∀ x, aft t now = some x → (aft t now).getD zt = x := fun x hx => by rw [hx]; rfl
  generalize hiu : (aft t now).getD zt = u at hu hsu
  generalize his : (aft t now).isSome = is
  have st := st25 (A := G.new (.row [.string ByteArray.empty, .int .i64 0, .int .u64 0, .int .u64 0, .slice none 0 0] 5 false)) (b := G.next) (by rw [ASt.get_new, if_pos rfl]) (tim_sg (n := u.name) (v := u.ver) (a := (u.at_ : Int)) (e := (u.every : Int)) hsu.single)
  simp only [w_w, oneW_next, s_0, s_1, s_2, s_3, s_4, g_0, w_0, w_a, Hands, handsV, resultsV, oneOrTuple, argsT, ev, evs, evPairs, evOpt, closed, flat, nth, aCall, aEnter, notYield, aNilCheck, partV, isAggD, aFieldAddr, aField, aExtract, Option.isNone, aBuiltin, aUn, cond_true, cond_false, cond_dec, if_true, if_false, List.length_cons, List.length_nil, forall_const, implies_true, List.append_nil, List.cons_append, List.nil_append, eq_self, Nat.reduceEqDiff, Nat.reduceAdd, Nat.reduceMul, Nat.reduceSub, Nat.reduceLT, Nat.reduceLeDiff, Nat.reduceBEq, reduceIte, reduceCtorEq, al25, ptrTo, tval, st]
  generalize hX : ASt.set (ASt.new G _) G.next _ = X
  have x8 : X.get G.next = some (.row [.string u.name, .int .i64 u.ver, .int .u64 (u.at_ : Int), .int .u64 (u.every : Int), du] 5 false) := by rw [← hX, ASt.get_set, if_pos rfl]
  have x1 : X.get A.next = G.get A.next := by rw [← hX, ASt.get_set, if_neg (by omega), ASt.get_new, if_neg (by omega)]
  have x1 := x1.trans g1
  have xn : X.next = G.next + 1 := by rw [← hX, ASt.next_set, ASt.next_new]
  have hfX : Fr [] A X := by rw [← hX]; exact ((hf12.trans hf3).trans .new).set (.inr (by omega))
  have hfGX : Fr [] G X := by rw [← hX]; exact Fr.new.set (.inr (Nat.le_refl _))
  clear hX
  refine brW_join (fun T' A' => tget T' 2 = .int .i64 n ∧ tget T' 3 = .pointer (some ⟨A.next, 0, none⟩) ∧ tget T' 8 = .pointer (some ⟨G.next, 0, none⟩) ∧ Fr [] X A') (fun hi => ?_) (fun hi => ?_) ?_
  · subst hi
    obtain ⟨x, hx⟩ := Option.isSome_iff_exists.1 his
    have := hu x hx
    subst this
    obtain ⟨hu1, hu2, hu3, hu4, hu5⟩ := aft_some hx
    have hus : u.steps = t.steps := by rw [hu1]
    have hun : u.name = t.name := by rw [hu1]
    have huv : u.ver = t.ver := by rw [hu1]
    have hue : u.every = t.every := by rw [hu1]
    simp only [w_w, oneW_next, s_0, s_1, s_2, s_3, s_4, g_0, w_0, w_a, Hands, handsV, resultsV, oneOrTuple, argsT, ev, evs, evPairs, evOpt, closed, flat, nth, aCall, aEnter, notYield, aNilCheck, partV, isAggD, aFieldAddr, aField, aExtract, Option.isNone, aBuiltin, aUn, cond_true, cond_false, cond_dec, if_true, if_false, List.length_cons, List.length_nil, forall_const, implies_true, List.append_nil, List.cons_append, List.nil_append, eq_self, Nat.reduceEqDiff, Nat.reduceAdd, Nat.reduceMul, Nat.reduceSub, Nat.reduceLT, Nat.reduceLeDiff, Nat.reduceBEq, reduceIte, reduceCtorEq, x1, x8]
    refine CallT.mono (index_spec ha he (by omega)) ?_
    rintro _ Y ⟨⟨k, rfl⟩, hf4⟩
    have hyn := hf4.next
    have y1 := (hf4.get _ (by omega) (by simp)).trans x1
    have y8 := (hf4.get _ (by omega) (by simp)).trans x8
    have hocc : decide (t.at_ ≤ u.at_ ∧ rst t.at_ t.every u.at_ = 0) = true := decide_eq_true ⟨hu4, hu5⟩
    have st2 := st25 (A := Y.new (.row [.string ByteArray.empty, .int .i64 0, .int .u64 0, .int .u64 0, .slice none 0 0] 5 false)) (b := Y.next) (by rw [ASt.get_new, if_pos rfl]) (tim_sg (n := u.name) (v := u.ver) (a := (u.at_ : Int)) (e := (u.every : Int)) hsu.single)
    have st3 := st22 (A := (Y.new (.row [.string ByteArray.empty, .int .i64 0, .int .u64 0, .int .u64 0, .slice none 0 0] 5 false)).set Y.next (.row [.string u.name, .int .i64 u.ver, .int .u64 (u.at_ : Int), .int .u64 (u.every : Int), du] 5 false)) (b := Y.next) (x := (t.at_ : Int)) (by rw [ASt.get_set, if_pos rfl])
    have hne1 : (A.next = Y.next) = False := eq_false (by omega)
    have hne8 : (G.next = Y.next) = False := eq_false (by omega)
    simp only [w_w, oneW_next, s_0, s_1, s_2, s_3, s_4, g_0, w_0, w_a, Hands, handsV, resultsV, oneOrTuple, argsT, ev, evs, evPairs, evOpt, closed, flat, nth, aCall, aEnter, notYield, aNilCheck, partV, isAggD, aFieldAddr, aField, aExtract, Option.isNone, aBuiltin, aUn, cond_true, cond_false, cond_dec, if_true, if_false, List.length_cons, List.length_nil, forall_const, implies_true, List.append_nil, List.cons_append, List.nil_append, eq_self, Nat.reduceEqDiff, Nat.reduceAdd, Nat.reduceMul, Nat.reduceSub, Nat.reduceLT, Nat.reduceLeDiff, Nat.reduceBEq, reduceIte, reduceCtorEq, hocc, y1, y8, al25, ptrTo, cut5, st2, st3, hne1, hne8]
    generalize hV : ASt.set (ASt.set (ASt.new Y _) Y.next _) Y.next _ = V
    have v1 : V.get A.next = Y.get A.next := by rw [← hV, ASt.get_set, if_neg (by omega), ASt.get_set, if_neg (by omega), ASt.get_new, if_neg (by omega)]
    have v8 : V.get G.next = Y.get G.next := by rw [← hV, ASt.get_set, if_neg (by omega), ASt.get_set, if_neg (by omega), ASt.get_new, if_neg (by omega)]
    have v1 := v1.trans y1
    have v8 := v8.trans y8
    have hfV : Fr [] Y V := by rw [← hV]; exact (Fr.new.set (.inr (Nat.le_refl _))).set (.inr (Nat.le_refl _))
    have hVn : V.next = Y.next + 1 := by rw [← hV, ASt.next_set, ASt.next_set, ASt.next_new]
    clear hV
    have hsm := same_tim hro (A := V) (t := t) (v1 := du) (v2 := dv) (((hus ▸ hsu).fr hfGX (by simp)).fr (hf4.trans hfV) (by simp)) ((h.fr hfX (by simp)).fr (hf4.trans hfV) (by simp)) (by omega)
    rw [tval, tval] at hsm
    rw [hun, huv, hue]
    refine CallT.mono hsm ?_
    rintro _ V2 ⟨rfl, hf5⟩
    have w8 := (hf5.get _ (by omega) (by simp)).trans v8
    have c3 : ((u.at_ : Int) ≤ (now : Int)) = False := eq_false (by omega)
    have c4 : ((u.at_ : Int) > 4611686018427387904) = False := eq_false (by omega)
    simp only [w_w, oneW_next, s_0, s_1, s_2, s_3, s_4, g_0, w_0, w_a, Hands, handsV, resultsV, oneOrTuple, argsT, ev, evs, evPairs, evOpt, closed, flat, nth, aCall, aEnter, notYield, aNilCheck, partV, isAggD, aFieldAddr, aField, aExtract, Option.isNone, aBuiltin, aUn, cond_true, cond_false, cond_dec, if_true, if_false, List.length_cons, List.length_nil, forall_const, implies_true, List.append_nil, List.cons_append, List.nil_append, eq_self, Nat.reduceEqDiff, Nat.reduceAdd, Nat.reduceMul, Nat.reduceSub, Nat.reduceLT, Nat.reduceLeDiff, Nat.reduceBEq, reduceIte, reduceCtorEq, w8, c3, c4, undef]
    exact ⟨_, _, rfl, by simp only [tget_put, Nat.reduceEqDiff, if_false, if_true, reduceIte], by simp only [tget_put, Nat.reduceEqDiff, if_false, if_true, reduceIte], by simp only [tget_put, Nat.reduceEqDiff, if_false, if_true, reduceIte], (hf4.trans hfV).trans hf5⟩
  · subst hi
    have hno : aft t now = none := by
      cases ho : aft t now with
      | none => rfl
      | some x => rw [ho] at his; cases his
    have hnn := aft_none hno
    by_cases h5 : now < t.at_
    · have c5 : ((t.at_ : Int) > (now : Int)) = True := eq_true (by omega)
      have c6 : ((t.at_ : Int) ≤ 4611686018427387904) = False := eq_false (by omega)
      simp only [w_w, oneW_next, s_0, s_1, s_2, s_3, s_4, g_0, w_0, w_a, Hands, handsV, resultsV, oneOrTuple, argsT, ev, evs, evPairs, evOpt, closed, flat, nth, aCall, aEnter, notYield, aNilCheck, partV, isAggD, aFieldAddr, aField, aExtract, Option.isNone, aBuiltin, aUn, cond_true, cond_false, cond_dec, if_true, if_false, List.length_cons, List.length_nil, forall_const, implies_true, List.append_nil, List.cons_append, List.nil_append, eq_self, Nat.reduceEqDiff, Nat.reduceAdd, Nat.reduceMul, Nat.reduceSub, Nat.reduceLT, Nat.reduceLeDiff, Nat.reduceBEq, reduceIte, reduceCtorEq, x1, c5, c6, undef]
      exact ⟨_, _, rfl, by simp only [tget_put, Nat.reduceEqDiff, if_false, if_true, reduceIte], by simp only [tget_put, Nat.reduceEqDiff, if_false, if_true, reduceIte], by simp only [tget_put, Nat.reduceEqDiff, if_false, if_true, reduceIte], .refl _ _⟩
    · have c5 : ((t.at_ : Int) > (now : Int)) = False := eq_false (by omega)
      simp only [w_w, oneW_next, s_0, s_1, s_2, s_3, s_4, g_0, w_0, w_a, Hands, handsV, resultsV, oneOrTuple, argsT, ev, evs, evPairs, evOpt, closed, flat, nth, aCall, aEnter, notYield, aNilCheck, partV, isAggD, aFieldAddr, aField, aExtract, Option.isNone, aBuiltin, aUn, cond_true, cond_false, cond_dec, if_true, if_false, List.length_cons, List.length_nil, forall_const, implies_true, List.append_nil, List.cons_append, List.nil_append, eq_self, Nat.reduceEqDiff, Nat.reduceAdd, Nat.reduceMul, Nat.reduceSub, Nat.reduceLT, Nat.reduceLeDiff, Nat.reduceBEq, reduceIte, reduceCtorEq, x1, c5, undef]
      exact ⟨_, _, rfl, by simp only [tget_put, Nat.reduceEqDiff, if_false, if_true, reduceIte], by simp only [tget_put, Nat.reduceEqDiff, if_false, if_true, reduceIte], by simp only [tget_put, Nat.reduceEqDiff, if_false, if_true, reduceIte], .refl _ _⟩
  · rintro T1 X1 ⟨u2, u3, u8, hfX1⟩
    have hXn1 := hfX1.next
    simp only [w_w, oneW_next, s_0, s_1, s_2, s_3, s_4, g_0, w_0, w_a, Hands, handsV, resultsV, oneOrTuple, argsT, ev, evs, evPairs, evOpt, closed, flat, nth, aCall, aEnter, notYield, aNilCheck, partV, isAggD, aFieldAddr, aField, aExtract, Option.isNone, aBuiltin, aUn, cond_true, cond_false, cond_dec, if_true, if_false, List.length_cons, List.length_nil, forall_const, implies_true, List.append_nil, List.cons_append, List.nil_append, eq_self, Nat.reduceEqDiff, Nat.reduceAdd, Nat.reduceMul, Nat.reduceSub, Nat.reduceLT, Nat.reduceLeDiff, Nat.reduceBEq, reduceIte, reduceCtorEq]
    refine CodeW.mono (Q := fun o => (∃ T' A', o = .fr ⟨.exit 0, T', A'⟩) ∨ ∃ T' A', o = .fr ⟨.ret, T', A'⟩ ∧ tget T' 6 = .bool true) ?_ ?_
    · refine CodeW.loopR (k := 20) (fun k T' A' => ∃ (i : Nat) (ti : TimD) (dvi : Value) (y : TimD) (dy : Value), k = 20 - i ∧ (i : Int) ≤ max n 0 ∧ tget T' 14 = .int .i64 ((i : Nat) : Int) ∧ tget T' 2 = .int .i64 n ∧ tget T' 3 = .pointer (some ⟨A.next, 0, none⟩) ∧ tget T' 8 = .pointer (some ⟨G.next, 0, none⟩) ∧ A'.get A.next = some (.row [.string ti.name, .int .i64 ti.ver, .int .u64 (ti.at_ : Int), .int .u64 (ti.every : Int), dvi] 5 false) ∧ A'.get G.next = some (.row [.string y.name, .int .i64 y.ver, .int .u64 (y.at_ : Int), .int .u64 (y.every : Int), dy] 5 false) ∧ Steps (withRo E0 s) A' (fun b => b ≠ A.next ∧ b ≠ G.next) dvi ti.steps ∧ ti.at_ < 18446744073709551616 ∧ ti.every < 18446744073709551616 ∧ ti.steps.length ≤ 10 ∧ X.next ≤ A'.next) ?_ ⟨0, t, dv, u, du, rfl, by omega, ?_, ?_, ?_, ?_, ?_, ?_, ?_, ha, he, hlen, hXn1⟩
      · rintro k T' A1 ⟨i, ti, dvi, y, dy, rfl, hi, w14, w2, w3, w8, a1, a8, hst, hat, hev, hln, hA1⟩
        refine codeW_ok (withRo_ok E0_ok) hro.ro ?_
        by_cases hin : (i : Int) < n
        · have d1 : ((i : Int) < n) = True := eq_true hin
          simp only [w_w, oneW_next, s_0, s_1, s_2, s_3, s_4, g_0, w_0, w_a, Hands, handsV, resultsV, oneOrTuple, argsT, ev, evs, evPairs, evOpt, closed, flat, nth, aCall, aEnter, notYield, aNilCheck, partV, isAggD, aFieldAddr, aField, aExtract, Option.isNone, aBuiltin, aUn, cond_true, cond_false, cond_dec, if_true, if_false, List.length_cons, List.length_nil, forall_const, implies_true, List.append_nil, List.cons_append, List.nil_append, eq_self, Nat.reduceEqDiff, Nat.reduceAdd, Nat.reduceMul, Nat.reduceSub, Nat.reduceLT, Nat.reduceLeDiff, Nat.reduceBEq, reduceIte, reduceCtorEq, w14, w2, w3, w8, d1, a1, a8, cut5]
          have haf := after_spec hro (A := A1) (t := ti) (now := ti.at_) hst (by omega) hat hev hat
          rw [tval] at haf
          refine CallT.mono haf ?_
          rintro _ B ⟨db, rfl, hsb, hfb⟩
          have hBn := hfb.next
          have b1 := (hfb.get _ (by omega) (by simp)).trans a1
          have b8 := (hfb.get _ (by omega) (by simp)).trans a8
          rw [aft_self]
          rw [aft_self] at hsb
          by_cases hc : 0 < ti.every ∧ ti.at_ ≤ 4611686018427387904 ∧ ti.every ≤ 4611686018427387904 - ti.at_
          · rw [if_pos hc] at hsb ⊢
            simp only [Option.getD_some] at hsb
            obtain ⟨q1, q2, q3⟩ := hc
            have e1 : ((ti.every : Int) > 0) = True := eq_true (by omega)
            have e2 : ((ti.at_ : Int) ≤ 4611686018427387904) = True := eq_true (by omega)
            have ew : IntKind.u64.wrap (4611686018427387904 - (ti.at_ : Int)) = ((4611686018427387904 - ti.at_ : Nat) : Int) := by rw [IntKind.wrap_u64]; omega
            have e3 : ((ti.every : Int) ≤ ((4611686018427387904 - ti.at_ : Nat) : Int)) = True := eq_true (by omega)
            have ew2 : IntKind.u64.wrap (((ti.at_ + ti.every : Nat) : Int) - (ti.at_ : Int)) = (ti.every : Int) := by rw [IntKind.wrap_u64]; omega
            have sb := st25 b8 (tim_sg (n := ti.name) (v := ti.ver) (a := ((ti.at_ + ti.every : Nat) : Int)) (e := (ti.every : Int)) hsb.single)
            generalize hY : B.set G.next (.row [.string ti.name, .int .i64 ti.ver, .int .u64 ((ti.at_ + ti.every : Nat) : Int), .int .u64 (ti.every : Int), db] 5 false) = Y at sb
            have y8 : Y.get G.next = some (.row [.string ti.name, .int .i64 ti.ver, .int .u64 ((ti.at_ + ti.every : Nat) : Int), .int .u64 (ti.every : Int), db] 5 false) := by rw [← hY, ASt.get_set, if_pos rfl]
            have y1 : Y.get A.next = B.get A.next := by rw [← hY, ASt.get_set, if_neg (by omega)]
            have y1 := y1.trans b1
            have yn : Y.next = B.next := by rw [← hY, ASt.next_set]
            have fy : Fr [G.next] B Y := by rw [← hY]; exact (Fr.refl _ _).set (.inl (by simp))
            clear hY
            have bne : ∀ q, aBin2 E0 .neq 4 (.tmp 90) (.tmp 106) (.bool q) (.bool q) = some (.bool false) := fun q => by
              cases q <;> simp [aBin2, aBin, eqV, ti4, t4_desc]
            have fne : ∀ q : Int, (q ≠ q) = False := fun q => eq_false (by simp)
            have s1 := st25 y1 (tim_sg (n := ti.name) (v := ti.ver) (a := ((ti.at_ + ti.every : Nat) : Int)) (e := (ti.every : Int)) hsb.single)
            simp only [w_w, oneW_next, s_0, s_1, s_2, s_3, s_4, g_0, w_0, w_a, Hands, handsV, resultsV, oneOrTuple, argsT, ev, evs, evPairs, evOpt, closed, flat, nth, aCall, aEnter, notYield, aNilCheck, partV, isAggD, aFieldAddr, aField, aExtract, Option.isNone, aBuiltin, aUn, cond_true, cond_false, cond_dec, if_true, if_false, List.length_cons, List.length_nil, forall_const, implies_true, List.append_nil, List.cons_append, List.nil_append, eq_self, Nat.reduceEqDiff, Nat.reduceAdd, Nat.reduceMul, Nat.reduceSub, Nat.reduceLT, Nat.reduceLeDiff, Nat.reduceBEq, reduceIte, reduceCtorEq, w14, w2, w3, w8, Option.getD_some, Option.isSome_some, tval, sb, y1, y8, b1, e1, e2, ew, e3, bne, ew2, fne, cut5, s1, undef, wrap_succ (show i < 1000000 by omega)]
            refine ⟨20 - (i + 1), by omega, i + 1, { ti with at_ := ti.at_ + ti.every }, db, { ti with at_ := ti.at_ + ti.every }, db, rfl, by omega, rfl, rfl, by rw [if_neg (by omega)], ?_, by show ti.at_ + ti.every < _; omega, hev, hln, by omega⟩
            exact ((hsb.imp (S' := fun b => b ≠ A.next ∧ b ≠ G.next) (fun b hb _ => ⟨by omega, by omega⟩)).fr fy (fun b hb _ => by simp; exact hb.2)).fr (own := [A.next]) ((Fr.refl _ _).set (.inl (by simp))) (fun b hb _ => by simp; exact hb.1)
          · rw [if_neg hc] at hsb ⊢
            have bne : ∀ q, aBin2 E0 .neq 4 (.tmp 90) (.tmp 106) (.bool q) (.bool q) = some (.bool false) := fun q => by
              cases q <;> simp [aBin2, aBin, eqV, ti4, t4_desc]
            simp only [Option.getD_none] at hsb
            have sb := st25 b8 (tim_sg (n := zt.name) (v := zt.ver) (a := (zt.at_ : Int)) (e := (zt.every : Int)) hsb.single)
            generalize hY : B.set G.next (.row [.string zt.name, .int .i64 zt.ver, .int .u64 (zt.at_ : Int), .int .u64 (zt.every : Int), db] 5 false) = Y at sb
            have y1 : Y.get A.next = B.get A.next := by rw [← hY, ASt.get_set, if_neg (by omega)]
            have y1 := y1.trans b1
            clear hY
            have fin : ∀ (o : Out), (∃ T' A', o = .fr ⟨.ret, T', A'⟩ ∧ tget T' 6 = .bool true) → ((∃ T' A', o = Out.fr { ex := AExit.exit 0, T := T', A := A' }) ∨ ∃ T' A', o = Out.fr { ex := AExit.ret, T := T', A := A' } ∧ tget T' 6 = Value.bool true) := fun o h => .inr h
            by_cases k1 : 0 < ti.every
            · have e1 : ((ti.every : Int) > 0) = True := eq_true (by omega)
              by_cases k2 : ti.at_ ≤ 4611686018427387904
              · have e2 : ((ti.at_ : Int) ≤ 4611686018427387904) = True := eq_true (by omega)
                have ew : IntKind.u64.wrap (4611686018427387904 - (ti.at_ : Int)) = ((4611686018427387904 - ti.at_ : Nat) : Int) := by rw [IntKind.wrap_u64]; omega
                have e3 : ((ti.every : Int) ≤ ((4611686018427387904 - ti.at_ : Nat) : Int)) = False := eq_false (by omega)
                simp only [w_w, oneW_next, s_0, s_1, s_2, s_3, s_4, g_0, w_0, w_a, Hands, handsV, resultsV, oneOrTuple, argsT, ev, evs, evPairs, evOpt, closed, flat, nth, aCall, aEnter, notYield, aNilCheck, partV, isAggD, aFieldAddr, aField, aExtract, Option.isNone, aBuiltin, aUn, cond_true, cond_false, cond_dec, if_true, if_false, List.length_cons, List.length_nil, forall_const, implies_true, List.append_nil, List.cons_append, List.nil_append, eq_self, Nat.reduceEqDiff, Nat.reduceAdd, Nat.reduceMul, Nat.reduceSub, Nat.reduceLT, Nat.reduceLeDiff, Nat.reduceBEq, reduceIte, reduceCtorEq, w14, w2, w3, w8, Option.getD_none, Option.isSome_none, tval, sb, y1, b1, e1, e2, ew, e3, bne, undef]
                refine CallT.mono alive_spec ?_
                rintro _ _ ⟨rfl, rfl⟩
                simp only [w_w, oneW_next, s_0, s_1, s_2, s_3, s_4, g_0, w_0, w_a, Hands, handsV, resultsV, oneOrTuple, argsT, ev, evs, evPairs, evOpt, closed, flat, nth, aCall, aEnter, notYield, aNilCheck, partV, isAggD, aFieldAddr, aField, aExtract, Option.isNone, aBuiltin, aUn, cond_true, cond_false, cond_dec, if_true, if_false, List.length_cons, List.length_nil, forall_const, implies_true, List.append_nil, List.cons_append, List.nil_append, eq_self, Nat.reduceEqDiff, Nat.reduceAdd, Nat.reduceMul, Nat.reduceSub, Nat.reduceLT, Nat.reduceLeDiff, Nat.reduceBEq, reduceIte, reduceCtorEq]
                exact .inr ⟨_, _, rfl, by simp only [tget_put, Nat.reduceEqDiff, if_false, if_true, reduceIte]⟩
              · have e2 : ((ti.at_ : Int) ≤ 4611686018427387904) = False := eq_false (by omega)
                simp only [w_w, oneW_next, s_0, s_1, s_2, s_3, s_4, g_0, w_0, w_a, Hands, handsV, resultsV, oneOrTuple, argsT, ev, evs, evPairs, evOpt, closed, flat, nth, aCall, aEnter, notYield, aNilCheck, partV, isAggD, aFieldAddr, aField, aExtract, Option.isNone, aBuiltin, aUn, cond_true, cond_false, cond_dec, if_true, if_false, List.length_cons, List.length_nil, forall_const, implies_true, List.append_nil, List.cons_append, List.nil_append, eq_self, Nat.reduceEqDiff, Nat.reduceAdd, Nat.reduceMul, Nat.reduceSub, Nat.reduceLT, Nat.reduceLeDiff, Nat.reduceBEq, reduceIte, reduceCtorEq, w14, w2, w3, w8, Option.getD_none, Option.isSome_none, tval, sb, y1, b1, e1, e2, bne, undef]
                refine CallT.mono alive_spec ?_
                rintro _ _ ⟨rfl, rfl⟩
                simp only [w_w, oneW_next, s_0, s_1, s_2, s_3, s_4, g_0, w_0, w_a, Hands, handsV, resultsV, oneOrTuple, argsT, ev, evs, evPairs, evOpt, closed, flat, nth, aCall, aEnter, notYield, aNilCheck, partV, isAggD, aFieldAddr, aField, aExtract, Option.isNone, aBuiltin, aUn, cond_true, cond_false, cond_dec, if_true, if_false, List.length_cons, List.length_nil, forall_const, implies_true, List.append_nil, List.cons_append, List.nil_append, eq_self, Nat.reduceEqDiff, Nat.reduceAdd, Nat.reduceMul, Nat.reduceSub, Nat.reduceLT, Nat.reduceLeDiff, Nat.reduceBEq, reduceIte, reduceCtorEq]
                exact .inr ⟨_, _, rfl, by simp only [tget_put, Nat.reduceEqDiff, if_false, if_true, reduceIte]⟩
            · have e1 : ((ti.every : Int) > 0) = False := eq_false (by omega)
              simp only [w_w, oneW_next, s_0, s_1, s_2, s_3, s_4, g_0, w_0, w_a, Hands, handsV, resultsV, oneOrTuple, argsT, ev, evs, evPairs, evOpt, closed, flat, nth, aCall, aEnter, notYield, aNilCheck, partV, isAggD, aFieldAddr, aField, aExtract, Option.isNone, aBuiltin, aUn, cond_true, cond_false, cond_dec, if_true, if_false, List.length_cons, List.length_nil, forall_const, implies_true, List.append_nil, List.cons_append, List.nil_append, eq_self, Nat.reduceEqDiff, Nat.reduceAdd, Nat.reduceMul, Nat.reduceSub, Nat.reduceLT, Nat.reduceLeDiff, Nat.reduceBEq, reduceIte, reduceCtorEq, w14, w2, w3, w8, Option.getD_none, Option.isSome_none, tval, sb, y1, b1, e1, bne, undef]
              refine CallT.mono alive_spec ?_
              rintro _ _ ⟨rfl, rfl⟩
              simp only [w_w, oneW_next, s_0, s_1, s_2, s_3, s_4, g_0, w_0, w_a, Hands, handsV, resultsV, oneOrTuple, argsT, ev, evs, evPairs, evOpt, closed, flat, nth, aCall, aEnter, notYield, aNilCheck, partV, isAggD, aFieldAddr, aField, aExtract, Option.isNone, aBuiltin, aUn, cond_true, cond_false, cond_dec, if_true, if_false, List.length_cons, List.length_nil, forall_const, implies_true, List.append_nil, List.cons_append, List.nil_append, eq_self, Nat.reduceEqDiff, Nat.reduceAdd, Nat.reduceMul, Nat.reduceSub, Nat.reduceLT, Nat.reduceLeDiff, Nat.reduceBEq, reduceIte, reduceCtorEq]
              exact .inr ⟨_, _, rfl, by simp only [tget_put, Nat.reduceEqDiff, if_false, if_true, reduceIte]⟩
        · have d1 : ((i : Int) < n) = False := eq_false hin
          simp only [w_w, oneW_next, s_0, s_1, s_2, s_3, s_4, g_0, w_0, w_a, Hands, handsV, resultsV, oneOrTuple, argsT, ev, evs, evPairs, evOpt, closed, flat, nth, aCall, aEnter, notYield, aNilCheck, partV, isAggD, aFieldAddr, aField, aExtract, Option.isNone, aBuiltin, aUn, cond_true, cond_false, cond_dec, if_true, if_false, List.length_cons, List.length_nil, forall_const, implies_true, List.append_nil, List.cons_append, List.nil_append, eq_self, Nat.reduceEqDiff, Nat.reduceAdd, Nat.reduceMul, Nat.reduceSub, Nat.reduceLT, Nat.reduceLeDiff, Nat.reduceBEq, reduceIte, reduceCtorEq, w14, w2, d1]
          exact .inl ⟨_, _, rfl⟩
      · simp only [tget_put, Nat.reduceEqDiff, if_false, if_true, reduceIte]; rfl
      · simp only [tget_put, Nat.reduceEqDiff, if_false, if_true, reduceIte, u2]
      · simp only [tget_put, Nat.reduceEqDiff, if_false, if_true, reduceIte, u3]
      · simp only [tget_put, Nat.reduceEqDiff, if_false, if_true, reduceIte, u8]
      · exact (hfX1.get _ (by omega) (by simp)).trans x1
      · exact (hfX1.get _ (by omega) (by simp)).trans x8
      · exact (h.imp (S' := fun b => b ≠ A.next ∧ b ≠ G.next) (fun b _ hb => ⟨by omega, by omega⟩)).fr (hfX.trans hfX1) (by simp)
    · rintro o (⟨T', A', rfl⟩ | ⟨T', A', rfl, w6⟩)
      · simp only [w_w, oneW_next, s_0, s_1, s_2, s_3, s_4, g_0, w_0, w_a, Hands, handsV, resultsV, oneOrTuple, argsT, ev, evs, evPairs, evOpt, closed, flat, nth, aCall, aEnter, notYield, aNilCheck, partV, isAggD, aFieldAddr, aField, aExtract, Option.isNone, aBuiltin, aUn, cond_true, cond_false, cond_dec, if_true, if_false, List.length_cons, List.length_nil, forall_const, implies_true, List.append_nil, List.cons_append, List.nil_append, eq_self, Nat.reduceEqDiff, Nat.reduceAdd, Nat.reduceMul, Nat.reduceSub, Nat.reduceLT, Nat.reduceLeDiff, Nat.reduceBEq, reduceIte, reduceCtorEq]
        refine CallT.mono alive_spec ?_
        rintro _ _ ⟨rfl, rfl⟩
        simp only [w_w, oneW_next, s_0, s_1, s_2, s_3, s_4, g_0, w_0, w_a, Hands, handsV, resultsV, oneOrTuple, argsT, ev, evs, evPairs, evOpt, closed, flat, nth, aCall, aEnter, notYield, aNilCheck, partV, isAggD, aFieldAddr, aField, aExtract, Option.isNone, aBuiltin, aUn, cond_true, cond_false, cond_dec, if_true, if_false, List.length_cons, List.length_nil, forall_const, implies_true, List.append_nil, List.cons_append, List.nil_append, eq_self, Nat.reduceEqDiff, Nat.reduceAdd, Nat.reduceMul, Nat.reduceSub, Nat.reduceLT, Nat.reduceLeDiff, Nat.reduceBEq, reduceIte, reduceCtorEq]
      · simp only [w_w, oneW_next, s_0, s_1, s_2, s_3, s_4, g_0, w_0, w_a, Hands, handsV, resultsV, oneOrTuple, argsT, ev, evs, evPairs, evOpt, closed, flat, nth, aCall, aEnter, notYield, aNilCheck, partV, isAggD, aFieldAddr, aField, aExtract, Option.isNone, aBuiltin, aUn, cond_true, cond_false, cond_dec, if_true, if_false, List.length_cons, List.length_nil, forall_const, implies_true, List.append_nil, List.cons_append, List.nil_append, eq_self, Nat.reduceEqDiff, Nat.reduceAdd, Nat.reduceMul, Nat.reduceSub, Nat.reduceLT, Nat.reduceLeDiff, Nat.reduceBEq, reduceIte, reduceCtorEq, w6]
end Go.Proofs.YtgcffmhpjphefaaDoor

/- What a law's arguments hold: numbers, timers with steps. -/
namespace Go.Proofs.YtgcffmhpjphefaaDoor
open Go Go.AE Go.ChangeShapes Go.WideShapes Go.ChangeAt Go.RowKit Go.Joins Go.Deep

set_option maxRecDepth 100000
theorem Tryd.own : ownKnob Tryd.prog.godebug = none := by kernel_rfl
theorem Tryd.laidOut : laidOutB Tryd.prog = true := by kernel_rfl
theorem wf_u64 {n : Int} (h : (Lit.int .u64 n).wf = true) : ∃ m : Nat, n = (m : Int) ∧ m < 18446744073709551616 := by
  simp only [Lit.wf, Bool.and_eq_true, decide_eq_true_eq] at h
  have h1 : (0 : Int) ≤ n := h.1
  have h2 : n ≤ 18446744073709551615 := h.2
  exact ⟨n.toNat, by omega, by omega⟩
theorem wf_i64 {n : Int} (h : (Lit.int .i64 n).wf = true) : -9223372036854775808 ≤ n ∧ n < 9223372036854775808 := by
  simp only [Lit.wf, Bool.and_eq_true, decide_eq_true_eq] at h
  have h1 : (-9223372036854775808 : Int) ≤ n := h.1
  have h2 : n ≤ 9223372036854775807 := h.2
  exact ⟨h1, by omega⟩
theorem add_plain {b o i : Nat} : (⟨b, o, none⟩ : Addr).add i = ⟨b, o + i, none⟩ := by
  unfold Addr.add
  split
  · rename_i h; subst h; rfl
  · rfl
theorem cap_unk {cap : Nat} (h : cap ≤ maxLen) : cap ≠ unk := by
  intro e
  subst e
  unfold unk maxLen at h
  exact absurd h (by decide)
theorem choose_ltS {n : Nat} {α : Type} [Inhabited α] {p : Nat → α → Prop} (h : ∀ i, i < n → ∃ y, p i y) : ∃ f : Nat → α, ∀ i, i < n → p i (f i) := by
  have : ∀ i, ∃ y, i < n → p i y := fun i => by
    by_cases hi : i < n
    · obtain ⟨y, hy⟩ := h i hi; exact ⟨y, fun _ => hy⟩
    · exact ⟨default, fun h => absurd h hi⟩
  exact ⟨fun i => Classical.choose (this i), fun i hi => Classical.choose_spec (this i) hi⟩
instance : Inhabited StepD := ⟨⟨0, ByteArray.empty, ByteArray.empty, 0⟩⟩
def StepD.ok (y : StepD) : Prop := -9223372036854775808 ≤ y.kind ∧ y.kind < 9223372036854775808 ∧ -9223372036854775808 ≤ y.n ∧ y.n < 9223372036854775808

section
variable {H : Type} {enc : TypeId × Value → H} {w : World} {base : Nat} {spare : Nat → Bool} {held : Bool}
/-- What a slice of steps is to the walk. -/
def StepsAt (W : World) (v : Value) (l : List StepD) : Prop :=
  (l = [] ∧ v = .slice none 0 0) ∨ ∃ b o cap, v = .slice (some ⟨b, o, none⟩) l.length cap ∧ cap ≠ unk ∧ ∀ i y, l[i]? = some y → ∀ r c, (scell y)[r]? = some c → W.cell? ⟨b, o + (i * 4 + r), none⟩ = some c

theorem open_steps {fuel : Nat} {v : Value} {x : DataW H × List MemPlace} (h : DataW.trod enc Tryd.prog w base spare held fuel 23 [v] = some x) (hs : ∀ a len cap, v = .slice (some a) len cap → a.spot = none) :
    ∃ l, StepsAt w v l ∧ ∀ y ∈ l, y.ok := by
  rcases open_slice Tryd.underlying23 h with ⟨h0, _⟩ | ⟨a, len, cap, m, n, D, Pl, h0, _, hl, hcap, hm, _, hx⟩
  · cases h0; exact ⟨[], .inl ⟨rfl, rfl⟩, by simp⟩
  have hc : Tryd.prog.cellsOf 36 = 4 := by kernel_rfl
  rw [hc] at hx
  have hlm : len ≤ m := by rw [hm]; split <;> omega
  have each : ∀ i, i < len → ∃ y : StepD, y.ok ∧ ∀ r v, (scell y)[r]? = some v → w.cell? (a.add (i * 4 + r)) = some v := by
    intro i hi
    obtain ⟨cs', h1, h2⟩ := hx i (by omega)
    obtain ⟨_, hlen, hcell⟩ := World.cells?_some h1
    match cs', hlen with
    | [c0, c1, c2, c3], _ =>
      obtain ⟨y0, y1, y2, y3, k, _, _, g0, g1, g2, g3⟩ := trod_struct4 Tryd.underlying36 h2
      have k34 : Tryd.prog.cellsOf 34 = 1 := by kernel_rfl
      have k9 : Tryd.prog.cellsOf 9 = 1 := by kernel_rfl
      have k2 : Tryd.prog.cellsOf 2 = 1 := by kernel_rfl
      simp only [k34, k9, k2, List.drop_succ_cons, List.drop_zero, List.take_succ_cons, List.take_zero] at g0 g1 g2 g3
      obtain ⟨k0, e0, _, l0⟩ := DataW.trod_int Tryd.underlying34 g0
      obtain ⟨s1, e1, _⟩ := DataW.trod_string Tryd.underlying9 g1
      obtain ⟨s2, e2, _⟩ := DataW.trod_string Tryd.underlying9 g2
      obtain ⟨n3, e3, _, l3⟩ := DataW.trod_int Tryd.underlying2 g3
      cases e0; cases e1; cases e2; cases e3
      have w0 := wf_i64 l0
      have w3 := wf_i64 l3
      refine ⟨⟨k0, s1, s2, n3⟩, ⟨w0.1, w0.2, w3.1, w3.2⟩, fun r v hr => ?_⟩
      have hr4 : r < 4 := by
        by_cases hlt : r < 4
        · exact hlt
        · rw [List.getElem?_eq_none (by show 4 ≤ r; omega)] at hr
          cases hr
      have := hcell r hr4
      rw [add_add] at this
      rw [this]
      exact hr
  obtain ⟨f, hf⟩ := choose_ltS each
  cases h0
  have hsp := hs a len cap rfl
  obtain ⟨b, o, sp⟩ := a
  simp only at hsp
  subst hsp
  refine ⟨(List.range len).map f, .inr ⟨b, o, cap, by simp, cap_unk hcap, fun i y hy r c hr => ?_⟩, fun y hy => ?_⟩
  · rw [List.getElem?_map] at hy
    obtain ⟨j, hj, rfl⟩ := Option.map_eq_some_iff.1 hy
    have hi : i < len := by
      by_cases hlt : i < len
      · exact hlt
      · rw [List.getElem?_eq_none (by simp; omega)] at hj
        cases hj
    have : j = i := by simpa [List.getElem?_range hi] using hj.symm
    subst this
    have := (hf j hi).2 r c hr
    rwa [add_plain] at this
  · obtain ⟨i, hi, rfl⟩ := List.mem_map.1 hy
    exact (hf i (List.mem_range.1 hi)).1

theorem trod_u64 {fuel : Nat} {cs : List Value} {x : DataW H × List MemPlace} (h : DataW.trod enc Tryd.prog w base spare held fuel 22 cs = some x) : ∃ m : Nat, cs = [.int .u64 (m : Int)] ∧ m < 18446744073709551616 := by
  obtain ⟨n, rfl, _, hw⟩ := DataW.trod_int Tryd.underlying22 h
  obtain ⟨m, rfl, hm⟩ := wf_u64 hw
  exact ⟨m, rfl, hm⟩

/-- A timer. -/
theorem open_timer {v : Value} {d : DataW H} {p : List MemPlace} {base' : Nat} (hv : Value.okWide Tryd.prog w .any base' 25 v) (h : DataW.Trod enc Tryd.prog w base spare held 25 v d p) :
    ∃ (t : TimD) (dv : Value), v = tval t dv ∧ StepsAt w dv t.steps ∧ (∀ y ∈ t.steps, y.ok) ∧ t.at_ < 18446744073709551616 ∧ t.every < 18446744073709551616 ∧ -9223372036854775808 ≤ t.ver ∧ t.ver < 9223372036854775808 := by
  obtain ⟨cs, rfl, hsz, hrow⟩ : ∃ cs, v = .agg cs ∧ cs.size = Tryd.prog.cellsOf 25 ∧ Row.okWide Tryd.prog w .any base' 25 cs := by
    unfold Value.okWide at hv
    rw [Tryd.underlying25] at hv
    exact hv
  have h5 : Tryd.prog.cellsOf 25 = 5 := by kernel_rfl
  rw [h5] at hsz
  obtain ⟨l⟩ := cs
  match l, hsz with
  | [c0, c1, c2, c3, c4], _ =>
    obtain ⟨fuel, hf⟩ := h
    have hf : DataW.trod enc Tryd.prog w base spare held fuel 25 [c0, c1, c2, c3, c4] = some (d, p) := hf
    obtain ⟨xs, n, _, _, _, hxl, hg⟩ := Go.DataW.trod_struct Tryd.underlying25 hf
    have k9 : Tryd.prog.cellsOf 9 = 1 := by kernel_rfl
    have k3 : Tryd.prog.cellsOf 3 = 1 := by kernel_rfl
    have k22 : Tryd.prog.cellsOf 22 = 1 := by kernel_rfl
    have k23 : Tryd.prog.cellsOf 23 = 1 := by kernel_rfl
    match xs, hxl with
    | [x0, x1, x2, x3, x4], _ =>
    have g0 : DataW.trod enc Tryd.prog w base spare held n 9 (([c0, c1, c2, c3, c4].drop 0).take (Tryd.prog.cellsOf 9)) = some x0 := hg 0 _ rfl
    have g1 : DataW.trod enc Tryd.prog w base spare held n 3 (([c0, c1, c2, c3, c4].drop 1).take (Tryd.prog.cellsOf 3)) = some x1 := hg 1 _ rfl
    have g2 : DataW.trod enc Tryd.prog w base spare held n 22 (([c0, c1, c2, c3, c4].drop 2).take (Tryd.prog.cellsOf 22)) = some x2 := hg 2 _ rfl
    have g3 : DataW.trod enc Tryd.prog w base spare held n 22 (([c0, c1, c2, c3, c4].drop 3).take (Tryd.prog.cellsOf 22)) = some x3 := hg 3 _ rfl
    have g4 : DataW.trod enc Tryd.prog w base spare held n 23 (([c0, c1, c2, c3, c4].drop 4).take (Tryd.prog.cellsOf 23)) = some x4 := hg 4 _ rfl
    rw [k9] at g0
    rw [k3] at g1
    rw [k22] at g2 g3
    rw [k23] at g4
    obtain ⟨s, e0, _⟩ := Go.DataW.trod_string Tryd.underlying9 g0
    obtain ⟨ver, e1, _, l1⟩ := DataW.trod_int Tryd.underlying3 g1
    obtain ⟨at_, e2, l2⟩ := trod_u64 g2
    obtain ⟨ev, e3, l3⟩ := trod_u64 g3
    cases e0; cases e1; cases e2; cases e3
    have hsp : ∀ a len cap, c4 = .slice (some a) len cap → a.spot = none := by
      rintro a len cap rfl
      obtain ⟨ts, hts, _, hr⟩ := hrow
      have ht2 : Tryd.prog.cellTypes Tryd.prog.depth 25 = some [9, 3, 22, 22, 23] := by kernel_rfl
      rw [ht2] at hts
      cases hts
      obtain ⟨u, hu, hc⟩ := hr 4 _ rfl
      have hu : some 23 = some u := hu
      cases hu
      unfold Cell.okWide Cell.ok at hc
      rw [Tryd.underlying23] at hc
      exact hc.2.2.2.1
    obtain ⟨steps, hst, hok⟩ := open_steps g4 hsp
    have w1 := wf_i64 l1
    exact ⟨⟨s, ver, at_, ev, steps⟩, c4, rfl, hst, hok, l2, l3, w1.1, w1.2⟩
end

theorem scells_at : ∀ {l : List StepD} {i : Nat} {v : Value}, ((l.map scell).flatten)[i]? = some v → ∃ q y r, l[q]? = some y ∧ r < 4 ∧ i = q * 4 + r ∧ (scell y)[r]? = some v
  | [], i, v, h => by simp at h
  | y :: l, 0, v, h => ⟨0, y, 0, rfl, by omega, rfl, h⟩
  | y :: l, 1, v, h => ⟨0, y, 1, rfl, by omega, rfl, h⟩
  | y :: l, 2, v, h => ⟨0, y, 2, rfl, by omega, rfl, h⟩
  | y :: l, 3, v, h => ⟨0, y, 3, rfl, by omega, rfl, h⟩
  | y :: l, i + 4, v, h => by
    obtain ⟨q, z, r, h1, h2, h3, h4⟩ := scells_at (l := l) (i := i) (v := v) h
    exact ⟨q + 1, z, r, by simpa using h1, h2, by omega, h4⟩
theorem scell_closed {y : StepD} {r : Nat} {v : Value} (h : (scell y)[r]? = some v) : closed v = true := by
  match r, h with
  | 0, h => cases h; rfl
  | 1, h => cases h; rfl
  | 2, h => cases h; rfl
  | 3, h => cases h; rfl

/-- One more span, for steps. -/
theorem steps_span {W : World} {v : Value} {l : List StepD} (h : StepsAt W v l) (s : Spans) : ∃ (x : Go.AE.Loc × List Value) (sv : Value), (∀ (i : Nat) (c : Value), x.2[i]? = some c → closed c = true ∧ W.cell? ⟨x.1.B, x.1.o + i, none⟩ = some c) ∧
    (∀ s', roRen (s ++ x :: s') s.length = some x.1) ∧ (∀ s', VRel (roRen (s ++ x :: s')) sv v) ∧ ∀ s' A, (∀ b, b < A.next → A.get b = none) → s.length < A.next → Steps (withRo E0 (s ++ x :: s')) A (fun b => b = s.length) sv l := by
  rcases h with ⟨rfl, rfl⟩ | ⟨b, o, cap, rfl, hcap, hx⟩
  · refine ⟨(⟨0, 0, 0, 0, undef⟩, []), .slice none 0 0, by simp, fun s' => ?_, fun s' => .nilSlice 0 0, fun s' A _ _ => .inl ⟨rfl, rfl⟩⟩
    unfold roRen
    simp
  · refine ⟨(⟨b, o, 0, 0, undef⟩, (l.map scell).flatten), .slice (some ⟨s.length, 0, none⟩) l.length cap, ?_, ?_, ?_, ?_⟩
    · intro i c hc
      obtain ⟨q, y, r, h1, _, rfl, h4⟩ := scells_at hc
      exact ⟨scell_closed h4, hx q y h1 r c h4⟩
    · intro s'
      unfold roRen
      simp
    · intro s'
      have hr : roRen (s ++ (⟨b, o, 0, 0, undef⟩, (l.map scell).flatten) :: s') s.length = some ⟨b, o, 0, 0, undef⟩ := by unfold roRen; simp
      exact .slice (ρ := roRen (s ++ (⟨b, o, 0, 0, undef⟩, (l.map scell).flatten) :: s')) (b := s.length) (off := 0) l.length hr hcap
    · intro s' A hA hn
      have hlen := flat_len (scell_len (l := l))
      refine .inr ⟨s.length, 0, cap, (l.map scell).flatten, by rw [List.length_map], .inl ⟨hA _ hn, ?_⟩, rfl, hn, scell_len, ?_⟩
      · rw [ro_of]
        unfold roTab
        simp
      · unfold cut
        simp only [List.drop_zero, ← hlen, List.take_length, Nat.beq_refl, cond_true]
end Go.Proofs.YtgcffmhpjphefaaDoor

/-
  THE STATEMENT: ExprMakes, where what comes in is of bulk at most 1048576: any condition with other names, any parts joined, are as the document says.
-/
import Derived.Test.YtjbfemmnhnomaaaRows
import Derived.Test.YtjbfemmnhnomaaaHpEMP
import Derived.Test.YtjbfemmnhnomaaaHpEwJ
import Derived.WalkKit
import Derived.ProofKit
import Derived.OpenShut
import Derived.ShutString
import Derived.ChangeOld
import Derived.Below
import Derived.Carry
import Derived.SizedLaws
import Derived.Deep.CondSized
namespace Go.Proofs.Ytjbfemmnhnomaaa.exprMakes
open Go.ChangeShapes Go.WideShapes Go.ChangeAt Go.RowKit Go.Ev
set_option linter.unusedVariables false
theorem ok : HpEM.cx.ok = true := by kernel_rfl
theorem okd : dataB HpEM.cx = true := by kernel_rfl
theorem own : ownKnob Try.prog.godebug = none := by kernel_rfl
theorem laidOut : laidOutB Try.prog = true := by kernel_rfl
theorem kind3 : HpEM.cx.kind 3 = .int .i64 := by kernel_rfl
theorem kind25 : HpEM.cx.kind 25 = .sl .exp 43 7 96 := by kernel_rfl
theorem kind29 : HpEM.cx.kind 29 = .sl .str 9 1 16 := by kernel_rfl
theorem flat43 : flatK HpEM.cx 20 43 = some (ctOf .exp) := by kernel_rfl
set_option maxRecDepth 100000 in
theorem walk (x0 : Exp) (x1 : (List Bytes)) (x2 : (List Bytes)) (x3 : Int) (x4 : (List Exp)) (w : World) (v0 v1 v2 v3 v4 : Value) (h0 : RelV [] [] w N0 (.agg (cells .exp x0)) v0) (h1 : RelV [] [] w N0 (.sl .str false x1) v1) (h2 : RelV [] [] w N0 (.sl .str false x2) v2) (h3 : RelV [] [] w N0 (.int .i64 x3) v3) (h4 : RelV [] [] w N0 (.sl .exp false x4) v4) (hl : ∃ k, HpEM.law09_ExprMakes k x0 x1 x2 x3 x4 = some (true, ())) :
    Calls Try.prog 6 #[v0, v1, v2, v3, v4] w fun e w' => e = .returned (.bool true) ∧ Below w.heap.size w w' := by
  obtain ⟨k, hk⟩ := hl
  rw [HpEM.law09_ExprMakes_def] at hk
  exact law_calls (cx := HpEM.cx) ok (roAll_none fun _ _ _ => rfl) (k := k) (f := 6) (args := [(.agg (cells .exp x0)), (.sl .str false x1), (.sl .str false x2), (.int .i64 x3), (.sl .exp false x4)]) (r := (true, ())) hk rfl (relL_cons h0 (relL_cons h1 (relL_cons h2 (relL_cons h3 (relL_cons h4 relL_nil)))))
theorem bl {H : Type} : BulkLaws (H := H) Rows.uptoBulk Rows.uptoBulkAll where
  nil := by simp [Rows.uptoBulkAll]
  cons d r := by simp [Rows.uptoBulkAll]
  one d := by
    cases d with
    | lit l => cases l <;> simp [Rows.uptoBulk]
    | nil => simp [Rows.uptoBulk]
    | ptr d => simp [Rows.uptoBulk]
    | slice elems spare => simp [Rows.uptoBulk]
    | agg parts => simp [Rows.uptoBulk]
    | iface t d => simp [Rows.uptoBulk]
    | map entries => simp [Rows.uptoBulk]
    | held h => simp [Rows.uptoBulk]
  str b := by simp [Rows.uptoBulk]
  slice a b := by simp [Rows.uptoBulk]
  agg a := by simp [Rows.uptoBulk]
set_option maxRecDepth 100000 in
theorem lifted (os : Os) (started : os.Started) (H : Type) (enc : TypeId × Value → H) (F : Stop.Interp) :
    ReturnsInHanded {} Try.checked os 6 .any ((Rows.OpenSpec.upto Rows.exprMakesSpec).pre6 enc Try.prog Try.f6 Rows.exprMakesUptoRow.domain false) (((Rows.OpenSpec.upto Rows.exprMakesSpec).at F).post enc Try.prog Try.f6 false true false false) := by
  refine returnsInHanded_of_cond_sized (C := Try.checked) (s := Rows.OpenSpec.upto Rows.exprMakesSpec) (k := Rows.uptoSmall) rfl own started (by kernel_rfl) Try.func6
    (OpenSpec.witness (enc := enc) (C := Try.checked) (s := Rows.OpenSpec.upto Rows.exprMakesSpec) (k := Rows.uptoSmall) rfl false ⟨#[], #[.agg #[.int .i64 0, .int .i64 0, .int .i64 0, .string ByteArray.empty, .string ByteArray.empty, .string ByteArray.empty, .slice none 0 0], .slice none 0 0, .slice none 0 0, .int .i64 0, .slice none 0 0], []⟩ 8 (by kernel_rfl) (by kernel_rfl) (by kernel_rfl)
      (x := ([.agg [.lit (.int .i64 0), .agg [.lit (.int .i64 0), .lit (.int .i64 0), .lit (.string [])], .lit (.string []), .lit (.string []), .nil], .nil, .nil, .lit (.int .i64 0), .nil], [], [])) (by kernel_rfl) rfl (by kernel_rfl)) ?_
  intro W base args ds gs before hval0 hW hcnd hk hsz0 _
  have hval : ∀ (j : Nat) t v, Try.f6.params[j]? = some t → args[j]? = some v → Value.okWide Try.prog W .any base t v := hval0
  have hsz : (DataW.weightsEach Try.prog (Try.f6.params.toList ++ Rows.exprMakesSpec.plain.varTypes Try.prog) (ds ++ gs)).all (· ≤ reachBytes) = true := hsz0
  have hW' := hW
  obtain ⟨p, q, hA0, hV, rfl, hfz, hnd⟩ := hW
  have hA : DataW.TrodAll enc Try.prog W 0 (fun _ => true) true Try.f6.params.toList args.toList ds p := hA0
  rw [Try.params6] at hA hval hsz
  obtain ⟨v0, vs0, d0, ds0, p0, q0, hargs, rfl, rfl, h0, r0⟩ := trodAll_cons hA
  obtain ⟨v1, vs1, d1, ds1, p1, q1, rfl, rfl, rfl, h1, r1⟩ := trodAll_cons r0
  obtain ⟨v2, vs2, d2, ds2, p2, q2, rfl, rfl, rfl, h2, r2⟩ := trodAll_cons r1
  obtain ⟨v3, vs3, d3, ds3, p3, q3, rfl, rfl, rfl, h3, r3⟩ := trodAll_cons r2
  obtain ⟨v4, vs4, d4, ds4, p4, q4, rfl, rfl, rfl, h4, r4⟩ := trodAll_cons r3
  obtain ⟨rfl, rfl, rfl⟩ := trodAll_nil r4
  obtain rfl : args = #[v0, v1, v2, v3, v4] := by cases args; simp_all
  obtain ⟨rfl, rfl⟩ := trodVars_none hV
  have k0 := h0
  have lt0 : ∀ x ∈ p0, x.block < W.heap.size := by obtain ⟨m, hm⟩ := k0; exact DataW.trod_lt m _ _ _ hm
  have k1 := h1
  have lt1 : ∀ x ∈ p1, x.block < W.heap.size := by obtain ⟨m, hm⟩ := k1; exact DataW.trod_lt m _ _ _ hm
  have k2 := h2
  have lt2 : ∀ x ∈ p2, x.block < W.heap.size := by obtain ⟨m, hm⟩ := k2; exact DataW.trod_lt m _ _ _ hm
  have k3 := h3
  have lt3 : ∀ x ∈ p3, x.block < W.heap.size := by obtain ⟨m, hm⟩ := k3; exact DataW.trod_lt m _ _ _ hm
  have k4 := h4
  have lt4 : ∀ x ∈ p4, x.block < W.heap.size := by obtain ⟨m, hm⟩ := k4; exact DataW.trod_lt m _ _ _ hm
  obtain ⟨x0, R0, G0, B0⟩ := arg_struct (cx := HpEM.cx) ok okd flat43 Try.underlying43 (hval 0 43 v0 rfl rfl) (fun n hn => of_decide_eq_true (List.all_eq_true.1 hsz n (DataW.weights_mem_each (j := 0) rfl rfl n hn))) h0
  obtain ⟨x1, R1, G1, B1⟩ := arg_slice (cx := HpEM.cx) ok okd kind29 (hval 1 29 v1 rfl rfl) (fun n hn => of_decide_eq_true (List.all_eq_true.1 hsz n (DataW.weights_mem_each (j := 1) rfl rfl n hn))) h1
  obtain ⟨x2, R2, G2, B2⟩ := arg_slice (cx := HpEM.cx) ok okd kind29 (hval 2 29 v2 rfl rfl) (fun n hn => of_decide_eq_true (List.all_eq_true.1 hsz n (DataW.weights_mem_each (j := 2) rfl rfl n hn))) h2
  obtain ⟨x3, R3, G3, B3⟩ := arg_int (cx := HpEM.cx) ok okd kind3 (hval 3 3 v3 rfl rfl) (fun n hn => of_decide_eq_true (List.all_eq_true.1 hsz n (DataW.weights_mem_each (j := 3) rfl rfl n hn))) h3
  obtain ⟨x4, R4, G4, B4⟩ := arg_slice (cx := HpEM.cx) ok okd kind25 (hval 4 25 v4 rfl rfl) (fun n hn => of_decide_eq_true (List.all_eq_true.1 hsz n (DataW.weights_mem_each (j := 4) rfl rfl n hn))) h4
  have hB : Rows.uptoBulkAll ([d0, d1, d2, d3, d4] : List (DataW H)) ≤ 1048576 := of_decide_eq_true hk
  simp only [Rows.uptoBulkAll] at hB
  have C0 := B0 _ _ bl
  have C1 := B1 _ _ bl
  have C2 := B2 _ _ bl
  have C3 := B3 _ _ bl
  have C4 := B4 _ _ bl
  clear hA0 hval0 hsz0
  refine (walk x0 x1 x2 x3 x4 W v0 v1 v2 v3 v4 R0 R1 R2 R3 R4 (HpEM.law x0 x1 x2 x3 x4 (good_exp G0) (reach_small (good_strs G1) (by omega)) (Nat.le_trans (esizes_le C4) (by omega)) (good_exps G4 x4 rfl).2)).mono fun e W' ⟨he, bel⟩ => ?_
  subst he
  exact ⟨_, rfl, _, _, _, [], _, [], hW', trodAll_mk1 (shut_bool Try.underlying4 _), (trodAll_cons_mk (Below.trod laidOut (by kernel_rfl) (of_decide_eq_true (by kernel_rfl)) k0 bel lt0) (trodAll_cons_mk (Below.trod laidOut (by kernel_rfl) (of_decide_eq_true (by kernel_rfl)) k1 bel lt1) (trodAll_cons_mk (Below.trod laidOut (by kernel_rfl) (of_decide_eq_true (by kernel_rfl)) k2 bel lt2) (trodAll_cons_mk (Below.trod laidOut (by kernel_rfl) (of_decide_eq_true (by kernel_rfl)) k3 bel lt3) (trodAll_cons_mk (Below.trod laidOut (by kernel_rfl) (of_decide_eq_true (by kernel_rfl)) k4 bel lt4) trodAll_mk0))))), rfl, bel.frame _, fun h => by cases h⟩
theorem over : Rows.exprMakesUptoRow.holds Try.pinned (Rows.OpenSpec.upto Rows.exprMakesSpec) :=
  OpenClaim.holds_of_cond 6 Try.f6 rfl rfl rfl rfl rfl rfl rfl ⟨rfl, rfl, rfl, rfl, rfl⟩ rfl rfl rfl rfl rfl (by kernel_rfl) Try.func6 (by kernel_rfl)
    (of_decide_eq_true (by kernel_rfl)) (by unfold Func.isWrapper; first | (rw [if_pos (by decide +kernel)]; kernel_rfl) | (rw [if_neg (by decide +kernel)]; exact ⟨rfl, rfl⟩))
    (fun os started H enc _ F => lifted os started H enc F)
theorem proved : Rows.ExprMakesUptoSaid := over
#print axioms proved
end Go.Proofs.Ytjbfemmnhnomaaa.exprMakes

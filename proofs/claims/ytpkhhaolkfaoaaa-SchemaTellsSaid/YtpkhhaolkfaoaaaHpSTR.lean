/-
  THE STATEMENT: SchemaTells: what the program tells of any schemas is what the document tells: may they be, the first of any name, its fields, the same of any two; no condition.
-/
import Derived.Test.YtpkhhaolkfaoaaaRows
import Derived.Test.YtpkhhaolkfaoaaaHpSTQ
import Derived.Test.YtpkhhaolkfaoaaaHpEwJ
import Derived.WalkKit
import Derived.ProofKit
import Derived.OpenShut
import Derived.ShutString
import Derived.ChangeOld
import Derived.Below
import Derived.Carry
import Derived.SizedLaws
namespace Go.Proofs.Ytpkhhaolkfaoaaa.schemaTells
open Go.ChangeShapes Go.WideShapes Go.ChangeAt Go.RowKit Go.Ev
set_option linter.unusedVariables false
theorem ok : HpST.cx.ok = true := by kernel_rfl
theorem okd : dataB HpST.cx = true := by kernel_rfl
theorem own : ownKnob Try.prog.godebug = none := by kernel_rfl
theorem laidOut : laidOutB Try.prog = true := by kernel_rfl
theorem kind9 : HpST.cx.kind 9 = .str := by kernel_rfl
theorem kind22 : HpST.cx.kind 22 = .sl .sch 30 2 40 := by kernel_rfl
theorem flat30 : flatK HpST.cx 20 30 = some (ctOf .sch) := by kernel_rfl
set_option maxRecDepth 100000 in
theorem walk (x0 : (List Sch)) (x1 : Sch) (x2 : Bytes) (w : World) (v0 v1 v2 : Value) (h0 : RelV [] [] w N0 (.sl .sch false x0) v0) (h1 : RelV [] [] w N0 (.agg (cells .sch x1)) v1) (h2 : RelV [] [] w N0 (.str x2) v2) (hl : ∃ k, HpST.law07_SchemaTells k x0 x1 x2 = some (true, ())) :
    Calls Try.prog 6 #[v0, v1, v2] w fun e w' => e = .returned (.bool true) ∧ Below w.heap.size w w' := by
  obtain ⟨k, hk⟩ := hl
  rw [HpST.law07_SchemaTells_def] at hk
  exact law_calls (cx := HpST.cx) ok (roAll_none fun _ _ _ => rfl) (k := k) (f := 6) (args := [(.sl .sch false x0), (.agg (cells .sch x1)), (.str x2)]) (r := (true, ())) hk rfl (relL_cons h0 (relL_cons h1 (relL_cons h2 relL_nil)))
set_option maxRecDepth 100000 in
theorem lifted (os : Os) (started : os.Started) (H : Type) (enc : TypeId × Value → H) :
    ReturnsInHanded {} Try.checked os 6 .any (Rows.schemaTellsSpec.pre6 enc Try.prog Try.f6 Rows.schemaTellsRow.domain false) (Rows.schemaTellsSpec.post enc Try.prog Try.f6 false true false false) := by
  refine returnsInHanded_of_change_sized (C := Try.checked) own started (by kernel_rfl) Try.func6
    (ChangeSpec.witness6 (enc := enc) (C := Try.checked) false ⟨#[], #[.slice none 0 0, .agg #[.string ByteArray.empty, .slice none 0 0], .string ByteArray.empty], []⟩ 8 (by kernel_rfl) (by kernel_rfl) (by kernel_rfl) (by kernel_rfl)) ?_
  intro W base args ds gs before hval0 hW hcnd hsz0 _
  have hval : ∀ (j : Nat) t v, Try.f6.params[j]? = some t → args[j]? = some v → Value.okWide Try.prog W .any base t v := hval0
  have hsz : (DataW.weightsEach Try.prog (Try.f6.params.toList ++ Rows.schemaTellsSpec.plain.varTypes Try.prog) (ds ++ gs)).all (· ≤ reachBytes) = true := hsz0
  have hW' := hW
  obtain ⟨p, q, hA0, hV, rfl, hfz, hnd⟩ := hW
  have hA : DataW.TrodAll enc Try.prog W 0 (fun _ => true) true Try.f6.params.toList args.toList ds p := hA0
  rw [Try.params6] at hA hval hsz
  obtain ⟨v0, vs0, d0, ds0, p0, q0, hargs, rfl, rfl, h0, r0⟩ := trodAll_cons hA
  obtain ⟨v1, vs1, d1, ds1, p1, q1, rfl, rfl, rfl, h1, r1⟩ := trodAll_cons r0
  obtain ⟨v2, vs2, d2, ds2, p2, q2, rfl, rfl, rfl, h2, r2⟩ := trodAll_cons r1
  obtain ⟨rfl, rfl, rfl⟩ := trodAll_nil r2
  obtain rfl : args = #[v0, v1, v2] := by cases args; simp_all
  obtain ⟨rfl, rfl⟩ := trodVars_none hV
  have k0 := h0
  have lt0 : ∀ x ∈ p0, x.block < W.heap.size := by obtain ⟨m, hm⟩ := k0; exact DataW.trod_lt m _ _ _ hm
  have k1 := h1
  have lt1 : ∀ x ∈ p1, x.block < W.heap.size := by obtain ⟨m, hm⟩ := k1; exact DataW.trod_lt m _ _ _ hm
  have k2 := h2
  have lt2 : ∀ x ∈ p2, x.block < W.heap.size := by obtain ⟨m, hm⟩ := k2; exact DataW.trod_lt m _ _ _ hm
  obtain ⟨x0, R0, G0, B0⟩ := arg_slice (cx := HpST.cx) ok okd kind22 (hval 0 22 v0 rfl rfl) (fun n hn => of_decide_eq_true (List.all_eq_true.1 hsz n (DataW.weights_mem_each (j := 0) rfl rfl n hn))) h0
  obtain ⟨x1, R1, G1, B1⟩ := arg_struct (cx := HpST.cx) ok okd flat30 Try.underlying30 (hval 1 30 v1 rfl rfl) (fun n hn => of_decide_eq_true (List.all_eq_true.1 hsz n (DataW.weights_mem_each (j := 1) rfl rfl n hn))) h1
  obtain ⟨x2, R2, G2, B2⟩ := arg_str (cx := HpST.cx) ok okd kind9 (hval 2 9 v2 rfl rfl) (fun n hn => of_decide_eq_true (List.all_eq_true.1 hsz n (DataW.weights_mem_each (j := 2) rfl rfl n hn))) h2
  clear hA0 hval0 hsz0
  refine (walk x0 x1 x2 W v0 v1 v2 R0 R1 R2 (HpST.law x0 x1 x2 (HpST.good_schs G0).1 (HpST.good_schs G0).2 (HpST.good_sch G1))).mono fun e W' ⟨he, bel⟩ => ?_
  subst he
  exact ⟨_, rfl, _, _, _, [], _, [], hW', trodAll_mk1 (shut_bool Try.underlying4 _), (trodAll_cons_mk (Below.trod laidOut (by kernel_rfl) (of_decide_eq_true (by kernel_rfl)) k0 bel lt0) (trodAll_cons_mk (Below.trod laidOut (by kernel_rfl) (of_decide_eq_true (by kernel_rfl)) k1 bel lt1) (trodAll_cons_mk (Below.trod laidOut (by kernel_rfl) (of_decide_eq_true (by kernel_rfl)) k2 bel lt2) trodAll_mk0))), rfl, bel.frame _, fun h => by cases h⟩
theorem over : Rows.schemaTellsRow.holds Try.pinned (OpenSpec.ofChange Rows.schemaTellsSpec) :=
  OpenClaim.holds_of_wide 6 Try.f6 rfl rfl rfl rfl rfl rfl rfl ⟨rfl, rfl, rfl, rfl, rfl⟩ rfl rfl rfl rfl rfl (by kernel_rfl) Try.func6 (by kernel_rfl)
    (of_decide_eq_true (by kernel_rfl)) (by unfold Func.isWrapper; first | (rw [if_pos (by decide +kernel)]; kernel_rfl) | (rw [if_neg (by decide +kernel)]; exact ⟨rfl, rfl⟩))
    (fun os started H enc _ => lifted os started H enc)
theorem proved : Rows.SchemaTellsSaid := over
#print axioms proved
end Go.Proofs.Ytpkhhaolkfaoaaa.schemaTells

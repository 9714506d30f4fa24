/-
  ValueBytes, the plain law.
-/
import Derived.Test.YtkgacdekkdeilaaHpVYT
set_option linter.unusedVariables false
set_option linter.unusedSectionVars false
namespace Go.Ev.HpVY
theorem awake_eq (k : Nat) : law06_awake (k + 20) = some (true, ()) := by kernel_rfl
theorem awake : Ans (fun k => law06_awake k) (true, ()) := .plus 20 awake_eq
theorem awakes : Ans (fun k => (law06_awake k).bind fun r => some (r.1, ())) (true, ()) := .bind awake .const
theorem at1 (P : Int) (b : List UInt8) : Ans (fun k => wire_Reader_At k true P b) (true, P, b, P, ()) := .succ (fun k => wire_Reader_At_eq k true P b) (.bind (rnone2 P b) (.no rfl (.of (fun k => wire_Reader_At_j0_eq k true P b _) .const)))
theorem at2 (P : Int) (b : List UInt8) : Ans (fun k => wire_Reader_At_2 k true P b) (true, P, b, P, ()) := .succ (fun k => wire_Reader_At_2_eq k true P b) (.bind (rnone3 P b) (.no rfl (.of (fun k => wire_Reader_At_2_j0_eq k true P b _) .const)))
theorem newR {b : List UInt8} (hl : b.length ≤ 140737488355328) : Ans (fun k => wire_NewReader k b) (true, 0, b, ()) := .succ (fun k => wire_NewReader_eq k b) (.yes (decide_eq_true (by omega)) .const)
theorem same_val (v : Val) : ((!((v.k == v.k) && ((v.n == v.n) && (v.s == v.s)))) == false) = true := by simp
theorem same_int (e : Int) : ((e != e) == false) = true := by simp
theorem same_at (e : Int) : (e != e) = false := by simp
theorem same_row (b : List UInt8) : (!(b == b)) = false := by simp
section
variable (l : List Val) (most : Int) (b : List UInt8) (hl : b.length ≤ 140737488355328)
include hl
theorem read5 : ∀ (d i P : Nat), i + d = 40 → P ≤ b.length → Ans2 (fun k n => law06_ValueBytes_l5 k n l most b (i : Int) true (P : Int) b (P : Int) b) (true, ()) := by
  intro d
  induction d with
  | zero =>
    intro i P hi hP
    exact .succ (fun k n => law06_ValueBytes_l5_eq k n l most b i true P b P b) (.no (decide_eq_false (by omega)) awakes.two)
  | succ d ih =>
    intro i P hi hP
    obtain ⟨p, v, e, hp, A, B, C⟩ := both_get b P hl hP
    refine .succ (fun k n => by rw [law06_ValueBytes_l5_eq, wrap_succ (m := 41) (i := i) (by omega) (by omega)]) (.yes (decide_eq_true (by omega)) (.bind B (.bind C (.yes (same_val v) (.yes (same_int e) (.bind (at2 p b) (.no (same_at p) ?_)))))))
    by_cases he : e = 0
    · subst he; exact .no rfl (ih (i + 1) p (by omega) hp)
    · exact .yes (ne_ he) awakes.two
theorem read4 : ∀ (d i P : Nat), i + d = 40 → P ≤ b.length → Ans2 (fun k n => law06_ValueBytes_l4 k n l most b (i : Int) true (P : Int) b (P : Int) b) (true, ()) := by
  intro d
  induction d with
  | zero =>
    intro i P hi hP
    exact .succ (fun k n => law06_ValueBytes_l4_eq k n l most b i true P b P b) (.no (decide_eq_false (by omega)) awakes.two)
  | succ d ih =>
    intro i P hi hP
    obtain ⟨p, v, e, hp, A, B, C⟩ := both_get b P hl hP
    refine .succ (fun k n => by rw [law06_ValueBytes_l4_eq, wrap_succ (m := 41) (i := i) (by omega) (by omega)]) (.yes (decide_eq_true (by omega)) ?_)
    rcases A with A | A
    · refine elimL2 A (.bind C (.yes (same_val v) (.yes (same_int e) (.bind (at1 p b) (.no (same_at p) ?_)))))
      by_cases he : e = 0
      · subst he; exact .no rfl (ih (i + 1) p (by omega) hp)
      · exact .yes (ne_ he) awakes.two
    · refine Ans2.elimR A (.bind C (.yes (same_val v) (.yes (same_int e) (.bind (at2 p b) (.no (same_at p) ?_)))))
      by_cases he : e = 0
      · subst he; exact .no rfl (read5 l most b hl d (i + 1) p (by omega) hp)
      · exact .yes (ne_ he) awakes.two
theorem reads : Ans (fun k => law06_ValueBytes_j6 k l most b) (true, ()) :=
  .of (fun k => law06_ValueBytes_j6_eq k l most b) (.bind (newR hl) (read4 l most b hl 40 0 0 (by omega) (by omega)).diag)
end
theorem guard {R : Type} {l : List Val} {i : Nat} {X : Nat → Nat → Option R} {W : Nat → Option R} {res : R} (hW : Ans W res) (hX : ∀ h : i < l.length, i < 40 → Ans2 X res) :
    Ans2 (fun k n => bif (decide (((i : Nat) : Int) < ((List.length l : Nat) : Int)) == true) then (bif decide (((i : Nat) : Int) < 40) then X k n else W k) else W k) res := by
  by_cases h1 : i < l.length
  · refine .yes (by rw [lt_nat h1]; rfl) ?_
    by_cases h4 : i < 40
    · exact .yes (decide_eq_true (by omega)) (hX h1 h4)
    · exact .no (decide_eq_false (by omega)) hW.two
  · exact .no (by rw [nlt_nat (by omega)]; rfl) hW.two
section
variable (l : List Val) (most : Int) (b : List UInt8) (hl : b.length ≤ 140737488355328) (hv : ∀ v ∈ l, InV v) (M : Nat) (hM : M ≤ 65536)
include hl hv hM
theorem write3 : ∀ (d i : Nat) (w : List UInt8), i + d = 40 → w.length ≤ M → Ans2 (fun k n => law06_ValueBytes_l3 k n l most b (i : Int) true (M : Int) (M : Int) w w) (true, ()) := by
  intro d
  induction d with
  | zero =>
    intro i w hi hw
    exact .succ (fun k n => law06_ValueBytes_l3_eq k n l most b i true M M w w) (guard (reads l most b hl) fun _ h => by omega)
  | succ d ih =>
    intro i w hi hw
    refine .succ (fun k n => law06_ValueBytes_l3_eq k n l most b i true M M w w) (guard (reads l most b hl) fun h1 h2 => ?_)
    have hI := hv _ (List.getElem_mem h1)
    refine .of (fun k n => by rw [law06_ValueBytes_j9_eq, wrap_succ (m := 41) (i := i) (by omega) (by omega)]) (.bind (idxA h1) ?_)
    rcases put_own hM hI hw with ⟨e, A, B⟩ | ⟨e, w', hw', A, B⟩
    · exact elimL2 A (.bind (idxA h1) (elimL2 B (.yes (same_int e) (.bind (done3 M (b := w) (by omega)) (.no (same_row w) (ih (i + 1) w (by omega) hw))))))
    · exact Ans2.elimR A (.bind (idxA h1) (Ans2.elimR B (.yes (same_int e) (.bind (done3 M (b := w') (by omega)) (.no (same_row w') (ih (i + 1) w' (by omega) hw'))))))
theorem write0 : ∀ (d i : Nat), i + d = 40 → Ans2 (fun k n => law06_ValueBytes_l0 k n l most b (i : Int) true (M : Int) (M : Int)) (true, ()) := by
  intro d
  induction d with
  | zero =>
    intro i hi
    exact .succ (fun k n => law06_ValueBytes_l0_eq k n l most b i true M M) (guard (reads l most b hl) fun _ h => by omega)
  | succ d ih =>
    intro i hi
    refine .succ (fun k n => law06_ValueBytes_l0_eq k n l most b i true M M) (guard (reads l most b hl) fun h1 h2 => ?_)
    have hI := hv _ (List.getElem_mem h1)
    refine .of (fun k n => by rw [law06_ValueBytes_j5_eq, wrap_succ (m := 41) (i := i) (by omega) (by omega)]) (.bind (idxA h1) ?_)
    rcases put_new hM hI with ⟨e, A, B⟩ | ⟨e, w', hw', A, B⟩
    · exact elimL2 A (.bind (idxA h1) (elimL2 B (.yes (same_int e) (.bind (done2 M) (.no rfl (ih (i + 1) (by omega)))))))
    · exact Ans2.elimR A (.bind (idxA h1) (Ans2.elimR B (.yes (same_int e) (.bind (done3 M (b := w') (by omega)) (.no (same_row w') (write3 l most b hl hv M hM d (i + 1) w' (by omega) hw'))))))
end
theorem law (l : List Val) (most : Int) (b : List UInt8) (hl : b.length ≤ 140737488355328) (hv : ∀ v ∈ l, InV v) : ∃ k, law06_ValueBytes k l most b = some (true, ()) := by
  suffices h : Ans (fun k => law06_ValueBytes k l most b) (true, ()) from h.ex
  have bad : (most < 0 ∨ most > 65536) → Ans (fun k => law06_ValueBytes k l most b) (true, ()) := by
    intro hb
    have W : Ans (fun k => wire_NewWriter k most) (Sum.inl (1, ())) := by
      refine .succ (fun k => wire_NewWriter_eq k most) ?_
      by_cases h0 : most < 0
      · exact .no (by simp [h0]) .const
      · exact .yes (by simp; omega) (.yes (decide_eq_true (by omega)) .const)
    have V : Ans (fun k => ref02_NewWriter k most) (Sum.inl (1, ())) := by
      refine .succ (fun k => ref02_NewWriter_eq k most) ?_
      by_cases h0 : most < 0
      · exact .no (by simp [h0]) .const
      · exact .yes (by simp; omega) (.yes (decide_eq_true (by omega)) .const)
    exact .succ (fun k => law06_ValueBytes_eq k l most b) (elimL W (elimL V (.yes rfl (.of (fun k => law06_ValueBytes_j0_eq k l most b _ _) (.yes rfl (.yes rfl awakes))))))
  by_cases h0 : most < 0
  · exact bad (.inl h0)
  · by_cases h1 : most > 65536
    · exact bad (.inr h1)
    · obtain ⟨M, rfl⟩ := Int.eq_ofNat_of_zero_le (show 0 ≤ most by omega)
      have W : Ans (fun k => wire_NewWriter k (M : Int)) (Sum.inr (true, (M : Int), 0, ())) := .succ (fun k => wire_NewWriter_eq k M) (.yes (by simp) (.no (decide_eq_false (by omega)) (.of (fun k => wire_NewWriter_j0_eq k M) .const)))
      have V : Ans (fun k => ref02_NewWriter k (M : Int)) (Sum.inr ((M : Int), 0, ())) := .succ (fun k => ref02_NewWriter_eq k M) (.yes (by simp) (.no (decide_eq_false (by omega)) (.of (fun k => ref02_NewWriter_j0_eq k M) .const)))
      exact .succ (fun k => law06_ValueBytes_eq k l M b) (.elimR W (.elimR V (.yes rfl (.of (fun k => law06_ValueBytes_j3_eq k l M b _ _ false) (.no rfl (.of (fun k => law06_ValueBytes_j4_eq k l M b _ _) (write0 l M b hl hv M (by omega) 40 0 (by omega)).diag))))))
theorem good_vals {xs : List Val} (h : Good (.sl .val false xs)) : ∀ v ∈ xs, InV v := by
  intro x hx
  cases h with
  | sl _ _ he =>
    have := he x hx (.int .i64 x.n) (by simp [cells])
    cases this with
    | int h => simp [Lit.wf, IntKind.signed, IntKind.min, IntKind.max, IntKind.bits] at h; exact ⟨by omega, by omega⟩
theorem good_bytes {xs : List UInt8} (h : Good (.sl .u8 false xs)) : xs.length ≤ 140737488355328 := by
  cases h with
  | sl _ hb _ =>
    have h1 : List.length (α := UInt8) xs * 1 ≤ reachBytes := hb
    simp only [reachBytes] at h1
    omega
end Go.Ev.HpVY

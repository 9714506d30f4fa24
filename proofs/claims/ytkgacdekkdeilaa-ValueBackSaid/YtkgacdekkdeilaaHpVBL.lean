/-
  ValueBack, the plain law.
-/
import Derived.Test.YtkgacdekkdeilaaHpVBT
set_option linter.unusedVariables false
set_option linter.unusedSectionVars false
namespace Go.Ev.HpVB
theorem awake_eq (k : Nat) : law06_awake (k + 20) = some (true, ()) := by kernel_rfl
theorem awake : Ans (fun k => law06_awake k) (true, ()) := .plus 20 awake_eq
theorem awakes : Ans (fun k => (law06_awake k).bind fun r => some (r.1, ())) (true, ()) := .bind awake .const
theorem Ans.elimL {α β γ : Type} {f : Nat → Option (α ⊕ β)} {F : Nat → α → Option γ} {G : Nat → β → Option γ} {b : α} {res : γ} (h : Ans f (Sum.inl b)) (hg : Ans (fun k => F k b) res) : Ans (fun k => (f k).bind fun r => Sum.elim (F k) (G k) r) res := by
  obtain ⟨N, hN⟩ := h
  obtain ⟨M, hM⟩ := hg
  refine ⟨max N M, fun k hk => ?_⟩
  show ((f k).bind fun r => Sum.elim (F k) (G k) r) = some res
  rw [hN k (by omega)]; exact hM k (by omega)
theorem Ans2.elimL {α β γ : Type} {f : Nat → Option (α ⊕ β)} {F : Nat → Nat → α → Option γ} {G : Nat → Nat → β → Option γ} {b : α} {res : γ} (h : Ans f (Sum.inl b)) (hg : Ans2 (fun k n => F k n b) res) : Ans2 (fun k n => (f k).bind fun r => Sum.elim (F k n) (G k n) r) res := by
  obtain ⟨N, hN⟩ := h
  obtain ⟨M, hM⟩ := hg
  refine ⟨max N M, fun k n hk hn => ?_⟩
  show ((f k).bind fun r => Sum.elim (F k n) (G k n) r) = some res
  rw [hN k (by omega)]; exact hM k n (by omega) (by omega)
theorem idxA' {α : Type} {xs : List α} {i : Nat} (h : i < xs.length) : Ans (fun _ => idx xs ((i : Nat) : Int)) xs[i] := .of (fun _ => idx_nat h) .const
theorem getA {α : Type} {xs : List α} {i : Nat} (h : i < xs.length) : Ans (fun _ => xs[Int.toNat ((i : Nat) : Int)]?) xs[i] := .of (fun _ => by rw [Int.toNat_natCast]; simp [h]) .const
theorem encV_len {v : Val} (hR : RightP v) (hv : InV v) : (encV v).length ≤ 300 := by
  have h10 := enc_ten (turn_lt hv)
  unfold encV
  split
  · simp
  · split
    · simp; omega
    · split
      · have hl : List.length v.s ≤ 256 := by
          rcases hR with h | h | h | h
          · have := h.1; omega
          · have := h.1; omega
          · have := h.1; omega
          · omega
        have := enc_ten (n := List.length v.s) (by omega)
        simp; omega
      · simp
def flat (l : List Val) : List UInt8 := l.flatMap encV
theorem flat_add (l : List Val) (v : Val) : flat (l ++ [v]) = flat l ++ encV v := by simp [flat]
theorem flat_len : ∀ (l : List Val), (∀ v ∈ l, RightP v ∧ InV v) → (flat l).length ≤ 300 * l.length
  | [], _ => by simp [flat]
  | v :: l, h => by
    have h1 := flat_len l fun w hw => h w (by simp [hw])
    have h2 := encV_len (h v (by simp)).1 (h v (by simp)).2
    simp only [flat, List.flatMap_cons, List.length_append, List.length_cons] at h1 ⊢
    omega
theorem flat_split (l : List Val) (i : Nat) (h : i < l.length) : flat l = flat (l.take i) ++ encV l[i] ++ flat (l.drop (i + 1)) := by
  have e : flat l = flat (l.take i ++ l[i] :: l.drop (i + 1)) := by rw [← List.drop_eq_getElem_cons h, List.take_append_drop]
  rw [e]
  simp only [flat, List.flatMap_append, List.flatMap_cons, List.append_assoc]
theorem at1 (P : Int) (b : List UInt8) : Ans (fun k => wire_Reader_At k true P b) (true, P, b, P, ()) := .succ (fun k => wire_Reader_At_eq k true P b) (.bind (rnone2 P b) (.no rfl (.of (fun k => wire_Reader_At_j0_eq k true P b _) .const)))
theorem at2 (P : Int) (b : List UInt8) : Ans (fun k => wire_Reader_At_2 k true P b) (true, P, b, P, ()) := .succ (fun k => wire_Reader_At_2_eq k true P b) (.bind (rnone3 P b) (.no rfl (.of (fun k => wire_Reader_At_2_j0_eq k true P b _) .const)))
theorem newR {b : List UInt8} (hl : b.length ≤ 140737488355328) : Ans (fun k => wire_NewReader k b) (true, 0, b, ()) := .succ (fun k => wire_NewReader_eq k b) (.yes (decide_eq_true (by omega)) .const)
theorem newW : Ans (fun k => wire_NewWriter k 65536) (Sum.inr (true, 65536, 0, ())) := .succ (fun k => wire_NewWriter_eq k 65536) (.yes rfl (.no rfl (.of (fun k => wire_NewWriter_j0_eq k 65536) .const)))
theorem same_val (v : Val) : (!((v.k == v.k) && ((v.n == v.n) && (v.s == v.s)))) = false := by simp
theorem took {b post : List UInt8} {v : Val} (hb : b = encV v ++ post) : (encV v == List.drop 0 (List.take (encV v).length b)) = true := by
  rw [hb, List.take_left]; simp
section
variable (l : List Val) (b : List UInt8) (hl : b.length ≤ 140737488355328) (put : List Val) (hp : ∀ v ∈ put, RightP v ∧ InV v) (hpl : put.length ≤ 40)
include hl hp hpl
theorem bl : (flat put).length ≤ 12000 := by have := flat_len put hp; omega
theorem read4 : ∀ (d i : Nat), i + d = put.length → Ans2 (fun k n => law06_ValueBack_l4 k n l b put (i : Int) true ((flat (put.take i)).length : Int) (flat put)) (true, ()) := by
  have hB := bl b hl put hp hpl
  intro d
  induction d with
  | zero =>
    intro i hi
    rw [List.take_of_length_le (by omega)]
    refine .succ (fun k n => law06_ValueBack_l4_eq k n l b put i true _ _) (.no (nlt_nat (by omega)) (.bind (newR hl) ?_))
    obtain ⟨p, v, e, hG, hT⟩ := vany b hl
    rcases hT with ⟨he, hv⟩ | ⟨he, hR, hI, post, hb, hpos⟩
    · rcases hG with hG | hG
      · refine Ans2.elimL hG (.yes (by show (e != 0) = true; simpa using he) (.bind (end2 (flat put)) (.yes rfl (.yes ?_ awakes.two))))
        rw [hv]; rfl
      · refine Ans2.elimR hG (.yes (by show (e != 0) = true; simpa using he) (.bind (end2 (flat put)) (.yes rfl (.yes ?_ awakes.two))))
        rw [hv]; rfl
    · subst he
      have hel := encV_len hR hI
      have hble : (encV v).length ≤ b.length := by rw [hb, List.length_append]; omega
      subst hpos
      rcases hG with hG | hG
      · exact Ans2.elimL hG (.no rfl (Ans2.elimR newW (Ans2.elimR (put2 hI hR) (.bind (end2 (flat put)) (.yes rfl (.yes rfl (.bind (at1 _ b) (.yes (by show (decide (((encV v).length : Int) ≤ ((List.length b : Nat) : Int)) == true) = true; simp; omega) (.bind (done3 65536 (b := encV v) (by omega)) (.bind (at1 _ b) (.bind (a := (encV v).length) (.of (fun k => bnd_le hble) .const) (.yes (by rw [took hb]; rfl) awakes.two))))))))))))
      · exact Ans2.elimR hG (.no rfl (Ans2.elimR newW (Ans2.elimR (put2 hI hR) (.bind (end2 (flat put)) (.yes rfl (.yes rfl (.bind (at2 _ b) (.yes (by show (decide (((encV v).length : Int) ≤ ((List.length b : Nat) : Int)) == true) = true; simp; omega) (.bind (done3 65536 (b := encV v) (by omega)) (.bind (at2 _ b) (.bind (a := (encV v).length) (.of (fun k => bnd_le hble) .const) (.yes (by rw [took hb]; rfl) awakes.two))))))))))))
  | succ d ih =>
    intro i hi
    have hlt : i < put.length := by omega
    obtain ⟨hR, hI⟩ := hp _ (List.getElem_mem hlt)
    have hs := flat_split put i hlt
    have G := vget2 hI hR hs (by omega)
    rw [← flat_add, ← List.take_succ_eq_append_getElem hlt] at G
    refine .succ (fun k n => by rw [law06_ValueBack_l4_eq, wrap_succ (m := 41) (i := i) (by omega) (by omega)]) (.yes (lt_nat hlt) (.bind G (.yes rfl (.bind (idxA' hlt) (.bind (getA hlt) (.no (same_val _) ?_))))))
    exact ih (i + 1) (by omega)
theorem read2 : ∀ (d i : Nat), i + d = put.length → Ans2 (fun k n => law06_ValueBack_l2 k n l b (i : Int) put true ((flat (put.take i)).length : Int) (flat put)) (true, ()) := by
  have hB := bl b hl put hp hpl
  intro d
  induction d with
  | zero =>
    intro i hi
    rw [List.take_of_length_le (by omega)]
    refine .succ (fun k n => law06_ValueBack_l2_eq k n l b i put true _ _) (.no (nlt_nat (by omega)) (.bind (newR hl) ?_))
    obtain ⟨p, v, e, hG, hT⟩ := vany b hl
    rcases hT with ⟨he, hv⟩ | ⟨he, hR, hI, post, hb, hpos⟩
    · rcases hG with hG | hG
      · refine Ans2.elimL hG (.yes (by show (e != 0) = true; simpa using he) (.bind (end1 (flat put)) (.yes rfl (.yes ?_ awakes.two))))
        rw [hv]; rfl
      · refine Ans2.elimR hG (.yes (by show (e != 0) = true; simpa using he) (.bind (end1 (flat put)) (.yes rfl (.yes ?_ awakes.two))))
        rw [hv]; rfl
    · subst he
      have hel := encV_len hR hI
      have hble : (encV v).length ≤ b.length := by rw [hb, List.length_append]; omega
      subst hpos
      rcases hG with hG | hG
      · exact Ans2.elimL hG (.no rfl (Ans2.elimR newW (Ans2.elimR (put2 hI hR) (.bind (end1 (flat put)) (.yes rfl (.yes rfl (.bind (at1 _ b) (.yes (by show (decide (((encV v).length : Int) ≤ ((List.length b : Nat) : Int)) == true) = true; simp; omega) (.bind (done3 65536 (b := encV v) (by omega)) (.bind (at1 _ b) (.bind (a := (encV v).length) (.of (fun k => bnd_le hble) .const) (.yes (by rw [took hb]; rfl) awakes.two))))))))))))
      · exact Ans2.elimR hG (.no rfl (Ans2.elimR newW (Ans2.elimR (put2 hI hR) (.bind (end1 (flat put)) (.yes rfl (.yes rfl (.bind (at2 _ b) (.yes (by show (decide (((encV v).length : Int) ≤ ((List.length b : Nat) : Int)) == true) = true; simp; omega) (.bind (done3 65536 (b := encV v) (by omega)) (.bind (at2 _ b) (.bind (a := (encV v).length) (.of (fun k => bnd_le hble) .const) (.yes (by rw [took hb]; rfl) awakes.two))))))))))))
  | succ d ih =>
    intro i hi
    have hlt : i < put.length := by omega
    obtain ⟨hR, hI⟩ := hp _ (List.getElem_mem hlt)
    have hs := flat_split put i hlt
    have e1 : flat (put.take i) ++ encV put[i] = flat (put.take (i + 1)) := by rw [← flat_add, ← List.take_succ_eq_append_getElem hlt]
    refine .succ (fun k n => by rw [law06_ValueBack_l2_eq, wrap_succ (m := 41) (i := i) (by omega) (by omega)]) (.yes (lt_nat hlt) ?_)
    rcases vget1 hI hR hs (by omega) with G | G
    · rw [e1] at G
      exact Ans2.elimL G (.yes rfl (.bind (idxA' hlt) (.bind (getA hlt) (.no (same_val _) (ih (i + 1) (by omega))))))
    · rw [e1] at G
      exact Ans2.elimR G (.yes rfl (.bind (idxA' hlt) (.bind (getA hlt) (.no (same_val _) (read4 l b hl put hp hpl d (i + 1) (by omega))))))
end
section
variable (l : List Val) (b : List UInt8) (hl : b.length ≤ 140737488355328) (hv : ∀ v ∈ l, InV v)
include hl hv
theorem write3 : ∀ (d i : Nat) (put : List Val), i + d = 40 → put.length ≤ i → (∀ v ∈ put, RightP v ∧ InV v) → Ans2 (fun k n => law06_ValueBack_l3 k n l b (i : Int) true 65536 put (flat put)) (true, ()) := by
  have fin : ∀ (put : List Val), put.length ≤ 40 → (∀ v ∈ put, RightP v ∧ InV v) → Ans (fun k => law06_ValueBack_j5 k l b true 65536 put (flat put)) (true, ()) := by
    intro put hpl hp
    have hB := bl b hl put hp hpl
    refine .of (fun k => law06_ValueBack_j5_eq k l b true 65536 put _) (.bind (done3 65536 (by omega)) (.bind (newR (by show (flat put).length ≤ _; omega)) ?_))
    exact (read2 l b hl put hp hpl put.length 0 (by omega)).diag
  intro d
  induction d with
  | zero =>
    intro i put hi hpl hp
    have F := fin put (by omega) hp
    refine .succ (fun k n => law06_ValueBack_l3_eq k n l b i true 65536 put _) ?_
    by_cases h1 : i < l.length
    · exact .yes (by rw [lt_nat h1]; rfl) (.no (decide_eq_false (by omega)) F.two)
    · exact .no (by rw [nlt_nat (by omega)]; rfl) F.two
  | succ d ih =>
    intro i put hi hpl hp
    have F := fin put (by omega) hp
    refine .succ (fun k n => law06_ValueBack_l3_eq k n l b i true 65536 put _) ?_
    by_cases h1 : i < l.length
    · refine .yes (by rw [lt_nat h1]; rfl) (.yes (decide_eq_true (by omega)) ?_)
      have hI := hv _ (List.getElem_mem h1)
      have hB := bl b hl put hp (by omega)
      obtain ⟨r, hr, hr'⟩ := right_ hI
      refine .of (fun k n => by rw [law06_ValueBack_j4_eq, wrap_succ (m := 41) (i := i) (by omega) (by omega)]) (.bind (idxA' h1) ?_)
      by_cases hR : RightP l[i]
      · obtain rfl := hr'.2 hR
        refine Ans2.elimR (put3 hI hR (b := flat put) (by omega)) (.bind (idxA' h1) (.bind hr (.no rfl (.yes rfl (.bind (idxA' h1) (.yes (decide_eq_true (by simp; omega)) ?_))))))
        have L := ih (i + 1) (put ++ [l[i]]) (by omega) (by simp; omega) (fun v hv' => by
          rcases List.mem_append.1 hv' with h | h
          · exact hp v h
          · simp at h; subst h; exact ⟨hR, hI⟩)
        rw [flat_add] at L
        exact L
      · have hf : r = false := by cases r with | false => rfl | true => exact absurd (hr'.1 rfl) hR
        subst hf
        exact Ans2.elimL (put3n hI hR (b := flat put)) (.bind (idxA' h1) (.bind hr (.no rfl (.no rfl (ih (i + 1) put (by omega) (by omega) hp)))))
    · exact .no (by rw [nlt_nat (by omega)]; rfl) F.two
theorem write1 : ∀ (d i : Nat), i + d = 40 → Ans2 (fun k n => law06_ValueBack_l1 k n l b (i : Int) true 65536 ([] : List Val)) (true, ()) := by
  have F : Ans (fun k => law06_ValueBack_j3 k l b true 65536 ([] : List Val)) (true, ()) := by
    refine .of (fun k => law06_ValueBack_j3_eq k l b true 65536 []) (.bind (done2 65536) (.bind (newR (by simp)) ?_))
    exact (read2 l b hl [] (by simp) (by simp) 0 0 rfl).diag
  intro d
  induction d with
  | zero =>
    intro i hi
    refine .succ (fun k n => law06_ValueBack_l1_eq k n l b i true 65536 []) ?_
    by_cases h1 : i < l.length
    · exact .yes (by rw [lt_nat h1]; rfl) (.no (decide_eq_false (by omega)) F.two)
    · exact .no (by rw [nlt_nat (by omega)]; rfl) F.two
  | succ d ih =>
    intro i hi
    refine .succ (fun k n => law06_ValueBack_l1_eq k n l b i true 65536 []) ?_
    by_cases h1 : i < l.length
    · refine .yes (by rw [lt_nat h1]; rfl) (.yes (decide_eq_true (by omega)) ?_)
      have hI := hv _ (List.getElem_mem h1)
      obtain ⟨r, hr, hr'⟩ := right_ hI
      refine .of (fun k n => by rw [law06_ValueBack_j2_eq, wrap_succ (m := 41) (i := i) (by omega) (by omega)]) (.bind (idxA' h1) ?_)
      by_cases hR : RightP l[i]
      · obtain rfl := hr'.2 hR
        refine Ans2.elimR (put2 hI hR) (.bind (idxA' h1) (.bind hr (.no rfl (.yes rfl (.bind (idxA' h1) (.yes rfl ?_))))))
        have L := write3 l b hl hv d (i + 1) [l[i]] (by omega) (by simp) (fun v hv' => by simp at hv'; subst hv'; exact ⟨hR, hI⟩)
        rw [show flat [l[i]] = encV l[i] by simp [flat]] at L
        exact L
      · have hf : r = false := by cases r with | false => rfl | true => exact absurd (hr'.1 rfl) hR
        subst hf
        exact Ans2.elimL (put2n hI hR) (.bind (idxA' h1) (.bind hr (.no rfl (.no rfl (ih (i + 1) (by omega))))))
    · exact .no (by rw [nlt_nat (by omega)]; rfl) F.two
theorem law : ∃ k, law06_ValueBack k l b = some (true, ()) := by
  suffices h : Ans (fun k => law06_ValueBack k l b) (true, ()) from h.ex
  exact .succ (fun k => law06_ValueBack_eq k l b) (Ans.elimR newW (write1 l b hl hv 40 0 rfl).diag)
end
theorem good_vals {xs : List Val} (h : Good (.sl .val false xs)) : ∀ v ∈ xs, InV v := by
  intro x hx
  cases h with
  | sl _ _ he =>
    have := he x hx (.int .i64 x.n) (by simp [cells])
    cases this with
    | int h => simp [Lit.wf, IntKind.signed, IntKind.min, IntKind.max, IntKind.bits] at h; exact ⟨by omega, by omega⟩
theorem good_bytes {xs : List UInt8} (h : Good (.sl .u8 false xs)) : xs.length ≤ 140737488355328 := by
  cases h with
  | sl _ hb _ =>
    have h1 : List.length (α := UInt8) xs * 1 ≤ reachBytes := hb
    simp only [reachBytes] at h1
    omega
end Go.Ev.HpVB

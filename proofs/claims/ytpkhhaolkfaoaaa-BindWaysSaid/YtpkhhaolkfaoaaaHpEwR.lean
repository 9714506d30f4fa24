/-
  THE EVALUATOR, PART 44: a function run up to its next joint: what is run there is left open.
-/
import Derived.Test.YtpkhhaolkfaoaaaHpEvB
set_option linter.unusedVariables false
set_option linter.unusedSimpArgs false
namespace Go.Ev
section
variable (cx : Cx)
/-- Code up to the next joints: loops, and masked seconds of sequences. -/
def sev {R : Type} (O : Orc cx) (C : List Nat → List Nat → St → Option R) (n : Nat) (f : Nat) (m : Nat) : List Nat → Code → List Nat → St → (AEx → St → Option R) → Option R
  | _, .skip, _, st, κ => κ .normal st
  | _, .region _ ops draw, _, st, κ => bif draw then adraw2 cx O ops.toList st (κ .normal) else aops cx O ops.toList ops.toList st (κ .normal)
  | ns, .seq a b, p, st, κ => sev O C n f m ns a (p ++ [0]) st (kSeq (fun st => match cx.mask f (p ++ [1]) with
      | some live => frcS (canon m live st) fun st => C (p ++ [1]) ns st
      | none => frcS st fun st => sev O C n f m ns b (p ++ [1]) st κ) κ)
  | ns, .cond c a b, p, st, κ => match st.ev c with
    | .bool t => bif t then sev O C n f m ns a (p ++ [0]) (st.know c true) κ else sev O C n f m ns b (p ++ [1]) (st.know c false) κ
    | _ => none
  | ns, .block id a, p, st, κ => sev O C n f m ns a (p ++ [0]) st (kBlock id κ)
  | ns, .scope a, p, st, κ => sev O C n f m ns a (p ++ [0]) st (kScope κ)
  | ns, .loop a, p, st, κ => frcS (maskAt cx f p m st) fun st => C p (ns ++ [n]) st
  | _, .rangeFunc g _ _ _, p, st, κ =>
    frcS (maskAt cx f p m st) fun st1 =>
    match st1.ev g with
    | .clo g caps => callK O g (.yld st1.objs.length :: caps) (st1.objs ++ [.frm f p st1.tmps none]) (kRange st1 κ)
    | _ => none
  | _, .exit id, _, st, κ => κ (.exit id) st
  | _, .label _, _, st, κ => κ .normal st
  | _, .ret, _, st, κ => κ .ret st
  | _, _, _, _, _ => none
def sres {R : Type} (O : Orc cx) (C : List Nat → List Nat → St → Option R) (n : Nat) (f : Nat) (m : Nat) : List Nat → Code → List Nat → List Nat → List Nat → St → (AEx → St → Option R) → Option R
  | ns, .seq a b, 0 :: q, ms, p, st, κ => sres O C n f m ns a q ms (p ++ [0]) st (kSeq (fun st => match cx.mask f (p ++ [1]) with
      | some live => frcS (canon m live st) fun st => C (p ++ [1]) ns st
      | none => frcS st fun st => sev cx O C n f m ns b (p ++ [1]) st κ) κ)
  | ns, .seq _ b, 1 :: q, ms, p, st, κ => sres O C n f m ns b q ms (p ++ [1]) st κ
  | ns, .cond _ a _, 0 :: q, ms, p, st, κ => sres O C n f m ns a q ms (p ++ [0]) st κ
  | ns, .cond _ _ b, 1 :: q, ms, p, st, κ => sres O C n f m ns b q ms (p ++ [1]) st κ
  | ns, .block id a, 0 :: q, ms, p, st, κ => sres O C n f m ns a q ms (p ++ [0]) st (kBlock id κ)
  | ns, .scope a, 0 :: q, ms, p, st, κ => sres O C n f m ns a q ms (p ++ [0]) st (kScope κ)
  | ns, .loop a, 0 :: q, r :: ms, p, st, κ => sres O C n f m (ns ++ [r]) a q ms (p ++ [0]) st (kSeq (fun st => frcS (maskAt cx f p m st) fun st => C p (ns ++ [r]) st) κ)
  | ns, .loop a, [], [r], p, st, κ => match r with
    | 0 => none
    | r + 1 => sev cx O C n f m (ns ++ [r]) a (p ++ [0]) st (kSeq (fun st => frcS (maskAt cx f p m st) fun st => C p (ns ++ [r]) st) κ)
  | ns, c, [], _, p, st, κ => sev cx O C n f m ns c p st κ
  | _, _, _, _, _, _, _ => none
variable {cx}
theorem resume_nil {R : Type} (O : Orc cx) (n f m : Nat) (c : Code) (p : List Nat) (st : St) (κ : AEx → St → Option R) : resume cx O n f m c [] [] p st κ = aev cx O n f m c p st κ := by
  cases c <;> rfl
theorem sev_eq {R : Type} {O : Orc cx} {C : List Nat → List Nat → St → Option R} {n f m : Nat} : ∀ (c : Code) (ns : List Nat) (p : List Nat) (st : St) (κ : AEx → St → Option R),
    (∀ pos ns' st, C (p ++ pos) (ns ++ ns') st = resume cx O n f m c pos ns' p st κ) → sev cx O C n f m ns c p st κ = aev cx O n f m c p st κ := by
  intro c
  induction c with
  | seq a b iha ihb =>
    intro ns p st κ hC
    have e : (kSeq (fun st => match cx.mask f (p ++ [1]) with
      | some live => frcS (canon m live st) fun st => C (p ++ [1]) ns st
      | none => frcS st fun st => sev cx O C n f m ns b (p ++ [1]) st κ) κ) = kSeq (fun st => frcS (maskAt cx f (p ++ [1]) m st) fun st => aev cx O n f m b (p ++ [1]) st κ) κ := by
      funext e st
      cases e with
      | normal =>
        simp only [kSeq, frcS_eq, maskAt]
        cases hm : cx.mask f (p ++ [1]) with
        | some live =>
          simp only
          have := hC [1] [] (canon m live st)
          rw [List.append_nil] at this
          rw [this]
          exact resume_nil O n f m b _ _ _
        | none =>
          simp only
          refine ihb ns (p ++ [1]) st κ fun pos ns' st => ?_
          rw [List.append_assoc]
          exact hC (1 :: pos) ns' st
      | _ => rfl
    simp only [sev, aev]
    rw [e]
    refine iha ns (p ++ [0]) st _ fun pos ns' st => ?_
    rw [List.append_assoc]
    exact hC (0 :: pos) ns' st
  | cond g a b iha ihb =>
    intro ns p st κ hC
    simp only [sev, aev]
    cases hg : st.ev g with
    | bool t =>
      cases t with
      | true =>
        refine iha ns (p ++ [0]) _ κ fun pos ns' st => ?_
        rw [List.append_assoc]
        exact hC (0 :: pos) ns' st
      | false =>
        refine ihb ns (p ++ [1]) _ κ fun pos ns' st => ?_
        rw [List.append_assoc]
        exact hC (1 :: pos) ns' st
    | _ => rfl
  | block id a iha =>
    intro ns p st κ hC
    simp only [sev, aev]
    refine iha ns (p ++ [0]) st _ fun pos ns' st => ?_
    rw [List.append_assoc]
    exact hC (0 :: pos) ns' st
  | scope a iha =>
    intro ns p st κ hC
    simp only [sev, aev]
    refine iha ns (p ++ [0]) st _ fun pos ns' st => ?_
    rw [List.append_assoc]
    exact hC (0 :: pos) ns' st
  | loop a iha =>
    intro ns p st κ hC
    simp only [sev, aev, frcS_eq]
    have := hC [] [n] (maskAt cx f p m st)
    rw [List.append_nil] at this
    rw [this]
    rfl
  | _ => intros; rfl
theorem sres_eq {R : Type} {O : Orc cx} {C : List Nat → List Nat → St → Option R} {n f m : Nat} : ∀ (c : Code) (pos ms : List Nat) (ns : List Nat) (p : List Nat) (st : St) (κ : AEx → St → Option R),
    (∀ pos ns' st, C (p ++ pos) (ns ++ ns') st = resume cx O n f m c pos ns' p st κ) → sres cx O C n f m ns c pos ms p st κ = resume cx O n f m c pos ms p st κ := by
  intro c
  induction c with
  | seq a b iha ihb =>
    intro pos ms ns p st κ hC
    rcases pos with _ | ⟨x, q⟩
    · exact (sev_eq (.seq a b) ns p st κ hC).trans (by cases ms <;> rfl)
    · rcases x with _ | _ | x
      · have e : (kSeq (fun st => match cx.mask f (p ++ [1]) with
          | some live => frcS (canon m live st) fun st => C (p ++ [1]) ns st
          | none => frcS st fun st => sev cx O C n f m ns b (p ++ [1]) st κ) κ) = kSeq (fun st => frcS (maskAt cx f (p ++ [1]) m st) fun st => aev cx O n f m b (p ++ [1]) st κ) κ := by
          funext e st
          cases e with
          | normal =>
            simp only [kSeq, frcS_eq, maskAt]
            cases hm : cx.mask f (p ++ [1]) with
            | some live =>
              simp only
              have := hC [1] [] (canon m live st)
              rw [List.append_nil] at this
              rw [this]
              exact resume_nil O n f m b _ _ _
            | none =>
              simp only
              refine sev_eq b ns (p ++ [1]) st κ fun pos ns' st => ?_
              rw [List.append_assoc]
              exact hC (1 :: pos) ns' st
          | _ => rfl
        simp only [sres, resume]
        rw [e]
        refine iha q ms ns (p ++ [0]) st _ fun pos ns' st => ?_
        rw [List.append_assoc]
        exact hC (0 :: pos) ns' st
      · refine ihb q ms ns (p ++ [1]) st κ fun pos ns' st => ?_
        rw [List.append_assoc]
        exact hC (1 :: pos) ns' st
      · rfl
  | cond g a b iha ihb =>
    intro pos ms ns p st κ hC
    rcases pos with _ | ⟨x, q⟩
    · exact (sev_eq (.cond g a b) ns p st κ hC).trans (by cases ms <;> rfl)
    · rcases x with _ | _ | x
      · refine iha q ms ns (p ++ [0]) st κ fun pos ns' st => ?_
        rw [List.append_assoc]
        exact hC (0 :: pos) ns' st
      · refine ihb q ms ns (p ++ [1]) st κ fun pos ns' st => ?_
        rw [List.append_assoc]
        exact hC (1 :: pos) ns' st
      · rfl
  | block id a iha =>
    intro pos ms ns p st κ hC
    rcases pos with _ | ⟨x, q⟩
    · exact (sev_eq (.block id a) ns p st κ hC).trans (by cases ms <;> rfl)
    · rcases x with _ | x
      · refine iha q ms ns (p ++ [0]) st _ fun pos ns' st => ?_
        rw [List.append_assoc]
        exact hC (0 :: pos) ns' st
      · rfl
  | scope a iha =>
    intro pos ms ns p st κ hC
    rcases pos with _ | ⟨x, q⟩
    · exact (sev_eq (.scope a) ns p st κ hC).trans (by cases ms <;> rfl)
    · rcases x with _ | x
      · refine iha q ms ns (p ++ [0]) st _ fun pos ns' st => ?_
        rw [List.append_assoc]
        exact hC (0 :: pos) ns' st
      · rfl
  | loop a iha =>
    intro pos ms ns p st κ hC
    have back : ∀ r, (kSeq (fun st => frcS (maskAt cx f p m st) fun st => C p (ns ++ [r]) st) κ) = kSeq (fun st => frcS (maskAt cx f p m st) fun st => loopN (fun st κ => aev cx O n f m a (p ++ [0]) st κ) (maskAt cx f p m) r st κ) κ := fun r => by
      funext e st
      cases e with
      | normal =>
        simp only [kSeq, frcS_eq]
        have := hC [] [r] (maskAt cx f p m st)
        rw [List.append_nil] at this
        rw [this]
        rfl
      | _ => rfl
    have inner : ∀ (r : Nat) (pos ns' : List Nat) (st : St), C (p ++ [0] ++ pos) (ns ++ [r] ++ ns') st = resume cx O n f m a pos ns' (p ++ [0]) st (kSeq (fun st => frcS (maskAt cx f p m st) fun st => loopN (fun st κ => aev cx O n f m a (p ++ [0]) st κ) (maskAt cx f p m) r st κ) κ) := fun r pos ns' st => by
      rw [List.append_assoc, List.append_assoc]
      exact hC (0 :: pos) (r :: ns') st
    rcases pos with _ | ⟨x, q⟩
    · rcases ms with _ | ⟨r, _ | ⟨r2, ms⟩⟩
      · exact (sev_eq (.loop a) ns p st κ hC).trans rfl
      · rcases r with _ | r
        · rfl
        · simp only [sres, resume, loopN]
          rw [back r]
          exact sev_eq a (ns ++ [r]) (p ++ [0]) st _ (inner r)
      · exact (sev_eq (.loop a) ns p st κ hC).trans rfl
    · rcases x with _ | x
      · rcases ms with _ | ⟨r, ms⟩
        · rfl
        · simp only [sres, resume]
          rw [back r]
          exact iha q ms (ns ++ [r]) (p ++ [0]) st _ (inner r)
      · rfl
  | _ =>
    intro pos ms ns p st κ hC
    rcases pos with _ | ⟨x, q⟩
    · exact (sev_eq _ ns p st κ hC).trans (by cases ms <;> rfl)
    · cases x <;> cases ms <;> rfl

variable (cx)
def scall (k : Nat) (f : Nat) (args : List AVal) (objs : List AObj) (C : List Nat → List Nat → St → Option (TA (cx.rty f args objs))) : Option (TA (cx.rty f args objs)) :=
  match cx.prog.funcs[f]? with
  | none => none
  | some fn => match fn.body with
    | none => none
    | some c => sev cx (orcAt cx k) C k f objs.length [] c [] { tmps := args ++ List.replicate (fn.ntmps - args.length) .undef, objs } (kRet cx f fn.results.toList args objs)
def sresume (k : Nat) (f : Nat) (args : List AVal) (objs : List AObj) (pos ns : List Nat) (st : St) (C : List Nat → List Nat → St → Option (TA (cx.rty f args objs))) : Option (TA (cx.rty f args objs)) :=
  match cx.prog.funcs[f]? with
  | none => none
  | some fn => match fn.body with
    | none => none
    | some c => sres cx (orcAt cx k) C k f objs.length [] c pos ns [] st (kRet cx f fn.results.toList args objs)
variable {cx}
theorem acall_eq (k f : Nat) (args : List AVal) (objs : List AObj) (hx : cx.ext f args objs = none := by rfl) : acall cx (k + 1) f args objs = scall cx k f args objs (aresume cx k f args objs) := by
  show acallBody cx (orcAt cx k) k f args objs = _
  cases hf : cx.prog.funcs[f]? with
  | none => simp only [acallBody, scall, hf]
  | some fn =>
    cases hb : fn.body with
    | none => simp only [acallBody, scall, hf, hb]
    | some c =>
      simp only [acallBody, scall, hf, hb, hx]
      refine (sev_eq c [] [] _ _ fun pos ns' st => ?_).symm
      simp only [aresume, hf, hb, List.nil_append]
theorem aresume_eq (k f : Nat) (args : List AVal) (objs : List AObj) (pos ns : List Nat) (st : St) : aresume cx k f args objs pos ns st = sresume cx k f args objs pos ns st (aresume cx k f args objs) := by
  cases hf : cx.prog.funcs[f]? with
  | none => simp only [aresume, sresume, hf]
  | some fn =>
    cases hb : fn.body with
    | none => simp only [aresume, sresume, hf, hb]
    | some c =>
      conv => lhs; unfold aresume
      simp only [sresume, hf, hb]
      refine (sres_eq c pos ns [] [] st _ fun pos ns' st => ?_).symm
      simp only [aresume, hf, hb, List.nil_append]
end
end Go.Ev

/-
  DictZero, the plain law.
-/
import Derived.Test.YtefjllkagobgiaaHpDZ
import Derived.Test.YtefjllkagobgiaaHpLib
set_option linter.unusedVariables false
namespace Go.Ev.HpDZ
theorem none1 : Ans (fun k => dict_Dict_none k) (true, ()) := .succ (fun k => dict_Dict_none_eq k) .const
theorem none2 (o0 : Int) (o1 : List Bytes) : Ans (fun k => dict_Dict_none_2 k o0 o1) (o0, o1, true, ()) := .succ (fun k => dict_Dict_none_2_eq k o0 o1) .const
theorem add (s : Bytes) : Ans (fun k => dict_Dict_Add k s) (0, 7, ()) := .succ (fun k => dict_Dict_Add_eq k s) (.bind none1 (.yes rfl .const))
theorem get (i o0 : Int) (o1 : List Bytes) : Ans (fun k => dict_Dict_Get k i o0 o1) (o0, o1, ([] : Bytes), 7, ()) := .succ (fun k => dict_Dict_Get_eq k i o0 o1) (.bind (none2 o0 o1) (.yes rfl .const))
theorem find (s : Bytes) : Ans (fun k => dict_Dict_Find k s) (0, false, ()) := .succ (fun k => dict_Dict_Find_eq k s) (.bind none1 (.yes rfl .const))
theorem len : Ans (fun k => dict_Dict_Len k) (0, ()) := .succ (fun k => dict_Dict_Len_eq k) (.bind none1 (.yes rfl .const))
theorem len2 (o0 : Int) (o1 : List Bytes) : Ans (fun k => dict_Dict_Len_2 k o0 o1) (o0, o1, 0, ()) := .succ (fun k => dict_Dict_Len_2_eq k o0 o1) (.bind (none2 o0 o1) (.yes rfl .const))
theorem put3 (o0 : Int) (o1 : Bool) (o2 : Int) (o3 : List Bytes) : Ans (fun k => dict_Dict_Put_3 k o0 o1 o2 o3) (Sum.inl (o0, o1, o2, o3, 7, ())) := .succ (fun k => dict_Dict_Put_3_eq k o0 o1 o2 o3) (.bind (none2 o0 o3) (.yes rfl .const))
theorem put4 (o0 : Bool) (o1 : Int) : Ans (fun k => dict_Dict_Put_4 k o0 o1) (o0, o1, 7, ()) := .succ (fun k => dict_Dict_Put_4_eq k o0 o1) (.bind none1 (.yes rfl .const))
theorem writer : Ans (fun k => wire_NewWriter k 9) (Sum.inr (true, 9, 0, ())) := .succ (fun k => wire_NewWriter_eq k 9) (.yes rfl (.no rfl (.of (fun k => wire_NewWriter_j0_eq k 9) .const)))
theorem law (s : Bytes) : ∃ k, law23_DictZero k s = some (true, ()) :=
  Ans.ex (.succ (fun k => law23_DictZero_eq k s) (.bind (add s) (.bind (get 0 0 []) (.bind (find s) (.bind writer (.yes (g := fun _ => some (false, ())) rfl (.yes rfl (.yes rfl (.bind len (.yes rfl (.bind (len2 0 []) (.yes rfl (.bind (put3 _ _ _ _) (.yes (g := fun _ => some (false, ())) rfl (.bind (put4 _ _) .const)))))))))))))))
end Go.Ev.HpDZ

/-
  WireZero, the plain law.
-/
import Derived.Test.YtpbgbhbmjepmeaaHpWZ
import Derived.Test.YtpbgbhbmjepmeaaHpLib
set_option linter.unusedVariables false
namespace Go.Ev.HpWZ
theorem none_ (o0 : Bool) (o1 : Int) (o2 : List UInt8) : Ans (fun k => wire_row_none k o0 o1 o2) (o0, o1, o2, !o0, ()) := .succ (wire_row_none_eq · o0 o1 o2) .const
theorem take (most : Int) (o1 : Int) (o2 : List UInt8) : Ans (fun k => wire_Reader_take k most false o1 o2) (false, o1, o2, 0, 0, 7, ()) :=
  .succ (wire_Reader_take_eq · most false o1 o2) (.bind (none_ false o1 o2) (.of (wire_Reader_take_j0_eq · most false o1 o2 _) (.yes rfl .const)))
theorem rtext (most : Int) (o1 : Int) (o2 : List UInt8) : Ans (fun k => wire_Reader_Text k most false o1 o2) (false, o1, o2, [], 7, ()) :=
  .succ (wire_Reader_Text_eq · most false o1 o2) (.bind (take _ o1 o2) (.yes rfl .const))
theorem wtext (s : Bytes) (o1 : Int) (o2 : List UInt8) : Ans (fun k => wire_Writer_Text k s false o1 o2) (false, o1, o2, 7, ()) :=
  .succ (wire_Writer_Text_eq · s false o1 o2) (.bind (none_ false o1 o2) (.of (wire_Writer_Text_j0_eq · s false o1 o2 _) (.yes rfl .const)))
theorem done (o1 : Int) (o2 : List UInt8) : Ans (fun k => wire_Writer_Done k false o1 o2) (false, o1, o2, [], ()) :=
  .succ (wire_Writer_Done_eq · false o1 o2) (.bind (none_ false o1 o2) (.yes rfl .const))
theorem end_ (o1 : Int) (o2 : List UInt8) : Ans (fun k => wire_Reader_End k false o1 o2) (false, o1, o2, 7, ()) :=
  .succ (wire_Reader_End_eq · false o1 o2) (.bind (none_ false o1 o2) (.of (wire_Reader_End_j0_eq · false o1 o2 _) (.yes rfl .const)))
theorem byte : Ans (fun k => wire_Reader_Byte k) (0, 7, ()) := .succ wire_Reader_Byte_eq (.of wire_Reader_Byte_j0_eq .const)
theorem num (n : Int) : Ans (fun k => wire_Writer_Num k n) (7, ()) := .succ (wire_Writer_Num_eq · n) (.of (wire_Writer_Num_j0_eq · n) .const)
theorem wbyte (n : Int) : Ans (fun k => wire_Writer_Byte k n) (7, ()) := .succ (wire_Writer_Byte_eq · n) (.of (wire_Writer_Byte_j0_eq · n) .const)
theorem at_ : Ans (fun k => wire_Reader_At k) (0, ()) := .succ wire_Reader_At_eq .const
theorem law (b : List UInt8) : ∃ k, law02_WireZero k b = some (true, ()) :=
  Ans.ex (.succ (law02_WireZero_eq · b) (.bind byte (.bind (rtext 3 0 []) (.yes rfl (.yes rfl (.bind (num 1) (.yes rfl (.bind (wtext b 0 []) (.yes rfl (.bind (wbyte 1) (.yes rfl (.bind (done 0 []) (.yes rfl (.bind at_ (.yes rfl (.bind (end_ 0 []) .const))))))))))))))))
end Go.Ev.HpWZ

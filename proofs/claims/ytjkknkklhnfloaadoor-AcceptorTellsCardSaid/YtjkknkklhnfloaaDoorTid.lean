/-
  The numbers of the struct types that our texts name. Written by a program of ours (seat_any.py).
-/
import Derived.Test.YtjkknkklhnfloaaDoorTy
namespace Go.Chg
abbrev tid_ApiBallot : Nat := 23
abbrev tid_ApiMsg : Nat := 27
abbrev tid_ApiHard : Nat := 34
abbrev tid_ApiCmd : Nat := 41
abbrev tid_ApiRecord : Nat := 43
abbrev tid_ApiEntry : Nat := 50
abbrev tid_CmdPart : Nat := 129
abbrev tid_ReconeHas : Nat := 139
abbrev tid_Utf8AcceptRange : Nat := 158
end Go.Chg

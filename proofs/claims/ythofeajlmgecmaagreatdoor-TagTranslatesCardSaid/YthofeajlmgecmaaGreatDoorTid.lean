/-
  The numbers of the struct types that our texts name. Written by a program of ours (seat_any.py).
-/
import Derived.Test.YthofeajlmgecmaaGreatDoorTy
namespace Go.Chg
abbrev tid_ApiBallot : Nat := 41
abbrev tid_ApiMsg : Nat := 44
abbrev tid_ApiCmd : Nat := 104
abbrev tid_ApiEntry : Nat := 106
abbrev tid_MsgtwoNumber : Nat := 191
abbrev tid_MsgtwoEntries : Nat := 193
abbrev tid_MsgtwoSingle : Nat := 194
abbrev tid_MsgtwoImage : Nat := 195
abbrev tid_CmdPart : Nat := 215
abbrev tid_Utf8AcceptRange : Nat := 239
end Go.Chg

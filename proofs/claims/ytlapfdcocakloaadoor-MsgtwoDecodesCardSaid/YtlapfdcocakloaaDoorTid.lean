/-
  The numbers of the struct types that our texts name. Written by a program of ours (seat_any.py).
-/
import Derived.Test.YtlapfdcocakloaaDoorTy
namespace Go.Chg
abbrev tid_ApiBallot : Nat := 23
abbrev tid_ApiMsg : Nat := 29
abbrev tid_ApiCmd : Nat := 40
abbrev tid_ApiEntry : Nat := 54
abbrev tid_CmdPart : Nat := 127
abbrev tid_MsgtwoNumber : Nat := 165
abbrev tid_MsgtwoEntries : Nat := 167
abbrev tid_MsgtwoSingle : Nat := 168
abbrev tid_MsgtwoImage : Nat := 169
abbrev tid_Utf8AcceptRange : Nat := 245
end Go.Chg

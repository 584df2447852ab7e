/-
  The numbers of the struct types that our texts name. Written by a program of ours (seat_any.py).
-/
import Derived.Test.YtlapfdcocakloaaGreatDoorTy
namespace Go.Chg
abbrev tid_ApiBallot : Nat := 23
abbrev tid_ApiMsg : Nat := 27
abbrev tid_ApiCmd : Nat := 38
abbrev tid_CmdPart : Nat := 84
abbrev tid_ApiEntry : Nat := 102
abbrev tid_MsgtwoNumber : Nat := 109
abbrev tid_MsgtwoEntries : Nat := 111
abbrev tid_MsgtwoSingle : Nat := 112
abbrev tid_MsgtwoImage : Nat := 113
abbrev tid_StringsBuilder : Nat := 139
abbrev tid_Utf8AcceptRange : Nat := 183
end Go.Chg

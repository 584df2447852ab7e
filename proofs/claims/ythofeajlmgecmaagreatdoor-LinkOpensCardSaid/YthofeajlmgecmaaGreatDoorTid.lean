/-
  The numbers of the struct types that our texts name. Written by a program of ours (seat_any.py).
-/
import Derived.Test.YthofeajlmgecmaaGreatDoorTy
namespace Go.Chg
abbrev tid_ApiBallot : Nat := 41
abbrev tid_ApiMsg : Nat := 44
abbrev tid_ApiCmd : Nat := 104
abbrev tid_ApiEntry : Nat := 106
abbrev tid_MsgtwoNumber : Nat := 191
abbrev tid_MsgtwoEntries : Nat := 193
abbrev tid_MsgtwoSingle : Nat := 194
abbrev tid_MsgtwoImage : Nat := 195
abbrev tid_CmdPart : Nat := 215
abbrev tid_Utf8AcceptRange : Nat := 239
abbrev tidn_abi_BoundsErrorCode : Nat := 6
abbrev tidn_runtime_errorString : Nat := 10
abbrev tidn_runtime_plainError : Nat := 11
abbrev tidn_api_Errno : Nat := 31
abbrev tidn_abi_TFlag : Nat := 247
abbrev tidn_abi_Kind : Nat := 248
abbrev tidn_abi_NameOff : Nat := 251
abbrev tidn_abi_TypeOff : Nat := 252
end Go.Chg

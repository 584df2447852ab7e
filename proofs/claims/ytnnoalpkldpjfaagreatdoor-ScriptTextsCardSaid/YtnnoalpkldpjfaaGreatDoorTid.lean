/-
  The numbers of the struct types that our texts name. Written by a program of ours (seat_any.py).
-/
import Derived.Test.YtnnoalpkldpjfaaGreatDoorTy
namespace Go.Chg
abbrev tid_ApiCmd : Nat := 23
abbrev tid_ApiEvent : Nat := 33
abbrev tid_CmdPart : Nat := 62
abbrev tid_ScriptKind : Nat := 74
abbrev tid_StringsBuilder : Nat := 95
abbrev tid_Utf8AcceptRange : Nat := 160
abbrev tidn_abi_BoundsErrorCode : Nat := 6
abbrev tidn_runtime_errorString : Nat := 10
abbrev tidn_runtime_plainError : Nat := 11
abbrev tidn_api_Errno : Nat := 26
abbrev tidn_iter_Seq_string_ : Nat := 89
abbrev tidn_error : Nat := 97
abbrev tidn_strconv_Error : Nat := 144
abbrev tidn_abi_TFlag : Nat := 190
abbrev tidn_abi_Kind : Nat := 191
abbrev tidn_abi_NameOff : Nat := 193
abbrev tidn_abi_TypeOff : Nat := 194
abbrev tid_sStr : Nat := 53
end Go.Chg

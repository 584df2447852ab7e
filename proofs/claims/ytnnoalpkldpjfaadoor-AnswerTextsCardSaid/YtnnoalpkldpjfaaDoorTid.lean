/-
  The numbers of the struct types that our texts name. Written by a program of ours (seat_any.py).
-/
import Derived.Test.YtnnoalpkldpjfaaDoorTy
namespace Go.Chg
abbrev tid_ApiAnswer : Nat := 24
abbrev tid_StringsBuilder : Nat := 59
abbrev tid_Utf8AcceptRange : Nat := 97
abbrev tidn_abi_BoundsErrorCode : Nat := 6
abbrev tidn_runtime_errorString : Nat := 10
abbrev tidn_runtime_plainError : Nat := 11
abbrev tidn_api_Errno : Nat := 22
abbrev tidn_error : Nat := 38
abbrev tidn_strconv_Error : Nat := 67
abbrev tidn_abi_TFlag : Nat := 122
abbrev tidn_abi_Kind : Nat := 123
abbrev tidn_abi_NameOff : Nat := 125
abbrev tidn_abi_TypeOff : Nat := 126
end Go.Chg

/-
  The numbers of the struct types that our texts name. Written by a program of ours (seat_any.py).
-/
import Derived.Test.YtnnoalpkldpjfaaTy
namespace Go.Chg
abbrev tid_ApiCmd : Nat := 34
abbrev tid_ApiBallot : Nat := 36
abbrev tid_ApiEntry : Nat := 38
abbrev tidn_abi_BoundsErrorCode : Nat := 6
abbrev tidn_runtime_errorString : Nat := 10
abbrev tidn_runtime_plainError : Nat := 11
abbrev tidn_iter_Seq_changeover_api_Entry_ : Nat := 41
abbrev tidn_abi_TFlag : Nat := 67
abbrev tidn_abi_Kind : Nat := 68
abbrev tidn_abi_NameOff : Nat := 71
abbrev tidn_abi_TypeOff : Nat := 72
end Go.Chg

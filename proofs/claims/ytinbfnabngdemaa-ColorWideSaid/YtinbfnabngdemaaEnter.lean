/- The head's words, read once. -/
import Derived.Test.YtinbfnabngdemaaProg
import Derived.KernelRfl
import GoSem.ClaimJoined
namespace Go.Proofs.Ytinbfnabngdemaa
open Go
def headNats : List Nat :=
 [104, 97, 114, 110, 101, 115, 115, 32, 100, 100, 98, 52, 98, 50, 57, 51, 101, 102, 54, 56, 101, 99, 101, 51, 51, 55, 52, 102, 99, 97, 56, 51, 101, 101, 102, 52, 52, 101, 54, 48, 48, 54, 97, 53, 52, 48, 52, 48, 56, 56, 
97, 53, 48, 99, 51, 57, 48, 101, 48, 101, 57, 50, 57, 51, 48, 100, 101, 99, 102, 51, 98, 51, 32, 99, 117, 116, 32, 97, 116, 32, 112, 105, 103, 101, 111, 110, 104, 111, 108, 101, 47, 112, 105, 103, 101, 111, 110, 104, 
111, 108, 101, 108, 97, 119, 50, 51, 46, 67, 111, 108, 111, 114, 67, 111, 108, 111, 114, 115, 32, 112, 105, 103, 101, 111, 110, 104, 111, 108, 101, 47, 112, 105, 103, 101, 111, 110, 104, 111, 108, 101, 108, 97, 119, 50, 
51, 46, 67, 111, 108, 111, 114, 84, 119, 105, 99, 101, 32, 112, 105, 103, 101, 111, 110, 104, 111, 108, 101, 47, 112, 105, 103, 101, 111, 110, 104, 111, 108, 101, 108, 97, 119, 50, 51, 46, 67, 111, 108, 111, 114, 67, 
108, 105, 113, 117, 101, 115, 32, 112, 105, 103, 101, 111, 110, 104, 111, 108, 101, 47, 112, 105, 103, 101, 111, 110, 104, 111, 108, 101, 108, 97, 119, 50, 51, 46, 67, 111, 108, 111, 114, 84, 114, 101, 101, 115, 32, 
112, 105, 103, 101, 111, 110, 104, 111, 108, 101, 47, 112, 105, 103, 101, 111, 110, 104, 111, 108, 101, 108, 97, 119, 50, 51, 46, 67, 111, 108, 111, 114, 77, 111, 118, 101, 115, 32, 112, 105, 103, 101, 111, 110, 104, 
111, 108, 101, 47, 112, 105, 103, 101, 111, 110, 104, 111, 108, 101, 108, 97, 119, 50, 51, 46, 67, 111, 108, 111, 114, 87, 105, 100, 101, 32, 112, 105, 103, 101, 111, 110, 104, 111, 108, 101, 47, 112, 105, 103, 101, 
111, 110, 104, 111, 108, 101, 108, 97, 119, 50, 51, 46, 67, 111, 108, 111, 114, 70, 105, 120, 101, 100]
def headChars : List Char := headNats.map Char.ofNat
set_option maxRecDepth 100000
theorem head_is : Try.prog.initOrder = String.ofList headChars := by kernel_rfl
theorem head_list : Try.prog.initOrder.toList = headChars := by rw [head_is]; exact String.toList_ofList
theorem head_words : behindMainWord (wordsSigns headChars) = [99, 117, 116].map Char.ofNat :: (wordsSigns headChars).drop 3 := by kernel_rfl
theorem later_no : Try.prog.laysLater = false := by kernel_rfl
theorem reflect_no : Try.prog.bearsReflect = false := by kernel_rfl
theorem door_ok : Try.prog.doorFits [] = true := by kernel_rfl
theorem may_words (r : List (List Char)) : stripLifts liftWords ([99, 117, 116].map Char.ofNat :: r) = ([], [99, 117, 116].map Char.ofNat :: r) := rfl
section
variable {P : Program} {cs : List Char} {r : List (List Char)}
theorem may_enter_of (h : P.initOrder.toList = cs) (hw : behindMainWord (wordsSigns cs) = [99, 117, 116].map Char.ofNat :: r) (hl : P.laysLater = false) (hr : P.bearsReflect = false) (hd : P.doorFits [] = true) : P.mayEnter = true := by
  unfold Program.mayEnter
  rw [h, hw]
  dsimp only
  rw [may_words, hl, hr]
  dsimp only
  rw [hd]
  rfl
theorem lifts_final_of (h : P.initOrder.toList = cs) (hw : behindMainWord (wordsSigns cs) = [99, 117, 116].map Char.ofNat :: r) : P.liftsFinal = false := by
  unfold Program.liftsFinal Program.headLifts
  rw [h, hw]
  dsimp only
  rw [may_words]
  rfl
theorem make_of (h : P.initOrder.toList = cs) (hw : behindMainWord (wordsSigns cs) = [99, 117, 116].map Char.ofNat :: r) : P.make = some .cut := by
  unfold Program.make
  rw [h, hw]
  rfl
end
theorem may_enter : Try.prog.mayEnter = true := may_enter_of head_list head_words later_no reflect_no door_ok
theorem lifts_final : Try.prog.liftsFinal = false := lifts_final_of head_list head_words
theorem make_cut : Try.prog.make = some .cut := make_of head_list head_words
end Go.Proofs.Ytinbfnabngdemaa

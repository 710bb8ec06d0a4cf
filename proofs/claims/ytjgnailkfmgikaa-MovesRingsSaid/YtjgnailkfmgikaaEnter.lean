/- The head's words, read once. -/
import Derived.Test.YtjgnailkfmgikaaProg
import Derived.KernelRfl
import GoSem.ClaimJoined
namespace Go.Proofs.Ytjgnailkfmgikaa
open Go
def headNats : List Nat :=
 [104, 97, 114, 110, 101, 115, 115, 32, 50, 97, 53, 50, 51, 98, 57, 55, 50, 50, 97, 48, 55, 55, 55, 48, 102, 101, 48, 52, 57, 97, 97, 48, 57, 99, 52, 53, 101, 100, 53, 51, 51, 99, 99, 51, 48, 51, 98, 101, 101, 52, 52, 
51, 56, 55, 98, 54, 51, 53, 52, 51, 53, 55, 49, 57, 100, 102, 48, 98, 99, 98, 53, 54, 32, 99, 117, 116, 32, 97, 116, 32, 112, 105, 103, 101, 111, 110, 104, 111, 108, 101, 47, 112, 105, 103, 101, 111, 110, 104, 111, 108, 
101, 108, 97, 119, 50, 48, 46, 77, 111, 118, 101, 115, 83, 101, 113, 32, 112, 105, 103, 101, 111, 110, 104, 111, 108, 101, 47, 112, 105, 103, 101, 111, 110, 104, 111, 108, 101, 108, 97, 119, 50, 48, 46, 77, 111, 118, 
101, 115, 67, 121, 99, 108, 101, 115, 32, 112, 105, 103, 101, 111, 110, 104, 111, 108, 101, 47, 112, 105, 103, 101, 111, 110, 104, 111, 108, 101, 108, 97, 119, 50, 48, 46, 77, 111, 118, 101, 115, 82, 105, 110, 103, 115, 
32, 112, 105, 103, 101, 111, 110, 104, 111, 108, 101, 47, 112, 105, 103, 101, 111, 110, 104, 111, 108, 101, 108, 97, 119, 50, 48, 46, 77, 111, 118, 101, 115, 70, 97, 110, 32, 112, 105, 103, 101, 111, 110, 104, 111, 108, 
101, 47, 112, 105, 103, 101, 111, 110, 104, 111, 108, 101, 108, 97, 119, 50, 48, 46, 77, 111, 118, 101, 115, 83, 116, 105, 108, 108]
def headChars : List Char := headNats.map Char.ofNat
set_option maxRecDepth 100000
theorem head_is : Try.prog.initOrder = String.ofList headChars := by kernel_rfl
theorem head_list : Try.prog.initOrder.toList = headChars := by rw [head_is]; exact String.toList_ofList
theorem head_words : behindMainWord (wordsSigns headChars) = [99, 117, 116].map Char.ofNat :: (wordsSigns headChars).drop 3 := by kernel_rfl
theorem later_no : Try.prog.laysLater = false := by kernel_rfl
theorem reflect_no : Try.prog.bearsReflect = false := by kernel_rfl
theorem door_ok : Try.prog.doorFits [] = true := by kernel_rfl
theorem may_words (r : List (List Char)) : stripLifts liftWords ([99, 117, 116].map Char.ofNat :: r) = ([], [99, 117, 116].map Char.ofNat :: r) := rfl
section
variable {P : Program} {cs : List Char} {r : List (List Char)}
theorem may_enter_of (h : P.initOrder.toList = cs) (hw : behindMainWord (wordsSigns cs) = [99, 117, 116].map Char.ofNat :: r) (hl : P.laysLater = false) (hr : P.bearsReflect = false) (hd : P.doorFits [] = true) : P.mayEnter = true := by
  unfold Program.mayEnter
  rw [h, hw]
  dsimp only
  rw [may_words, hl, hr]
  dsimp only
  rw [hd]
  rfl
theorem lifts_final_of (h : P.initOrder.toList = cs) (hw : behindMainWord (wordsSigns cs) = [99, 117, 116].map Char.ofNat :: r) : P.liftsFinal = false := by
  unfold Program.liftsFinal Program.headLifts
  rw [h, hw]
  dsimp only
  rw [may_words]
  rfl
theorem make_of (h : P.initOrder.toList = cs) (hw : behindMainWord (wordsSigns cs) = [99, 117, 116].map Char.ofNat :: r) : P.make = some .cut := by
  unfold Program.make
  rw [h, hw]
  rfl
end
theorem may_enter : Try.prog.mayEnter = true := may_enter_of head_list head_words later_no reflect_no door_ok
theorem lifts_final : Try.prog.liftsFinal = false := lifts_final_of head_list head_words
theorem make_cut : Try.prog.make = some .cut := make_of head_list head_words
end Go.Proofs.Ytjgnailkfmgikaa

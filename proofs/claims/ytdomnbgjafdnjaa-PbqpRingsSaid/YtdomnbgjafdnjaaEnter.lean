/- The head's words, read once. -/
import Derived.Test.YtdomnbgjafdnjaaProg
import Derived.KernelRfl
import GoSem.ClaimJoined
namespace Go.Proofs.Ytdomnbgjafdnjaa
open Go
def headNats : List Nat :=
 [104, 97, 114, 110, 101, 115, 115, 32, 100, 97, 102, 52, 100, 97, 54, 50, 57, 49, 57, 99, 56, 100, 100, 98, 54, 100, 57, 102, 52, 56, 101, 48, 53, 50, 54, 50, 57, 101, 99, 53, 99, 100, 54, 98, 51, 53, 49, 100, 53, 52, 
100, 49, 98, 50, 49, 48, 55, 102, 48, 100, 53, 56, 50, 101, 53, 99, 54, 54, 102, 100, 98, 102, 32, 99, 117, 116, 32, 97, 116, 32, 112, 105, 103, 101, 111, 110, 104, 111, 108, 101, 47, 112, 105, 103, 101, 111, 110, 104, 
111, 108, 101, 108, 97, 119, 50, 53, 46, 80, 98, 113, 112, 67, 111, 115, 116, 115, 32, 112, 105, 103, 101, 111, 110, 104, 111, 108, 101, 47, 112, 105, 103, 101, 111, 110, 104, 111, 108, 101, 108, 97, 119, 50, 53, 46, 
80, 98, 113, 112, 67, 104, 97, 105, 110, 115, 32, 112, 105, 103, 101, 111, 110, 104, 111, 108, 101, 47, 112, 105, 103, 101, 111, 110, 104, 111, 108, 101, 108, 97, 119, 50, 53, 46, 80, 98, 113, 112, 65, 112, 97, 114, 
116, 32, 112, 105, 103, 101, 111, 110, 104, 111, 108, 101, 47, 112, 105, 103, 101, 111, 110, 104, 111, 108, 101, 108, 97, 119, 50, 53, 46, 80, 98, 113, 112, 78, 101, 118, 101, 114, 32, 112, 105, 103, 101, 111, 110, 104, 
111, 108, 101, 47, 112, 105, 103, 101, 111, 110, 104, 111, 108, 101, 108, 97, 119, 50, 53, 46, 80, 98, 113, 112, 83, 111, 108, 118, 101, 115, 32, 112, 105, 103, 101, 111, 110, 104, 111, 108, 101, 47, 112, 105, 103, 101, 
111, 110, 104, 111, 108, 101, 108, 97, 119, 50, 53, 46, 80, 98, 113, 112, 82, 105, 110, 103, 115]
def headChars : List Char := headNats.map Char.ofNat
set_option maxRecDepth 100000
theorem head_is : Try.prog.initOrder = String.ofList headChars := by kernel_rfl
theorem head_list : Try.prog.initOrder.toList = headChars := by rw [head_is]; exact String.toList_ofList
theorem head_words : behindMainWord (wordsSigns headChars) = [99, 117, 116].map Char.ofNat :: (wordsSigns headChars).drop 3 := by kernel_rfl
theorem later_no : Try.prog.laysLater = false := by kernel_rfl
theorem reflect_no : Try.prog.bearsReflect = false := by kernel_rfl
theorem door_ok : Try.prog.doorFits [] = true := by kernel_rfl
theorem may_words (r : List (List Char)) : stripLifts liftWords ([99, 117, 116].map Char.ofNat :: r) = ([], [99, 117, 116].map Char.ofNat :: r) := rfl
section
variable {P : Program} {cs : List Char} {r : List (List Char)}
theorem may_enter_of (h : P.initOrder.toList = cs) (hw : behindMainWord (wordsSigns cs) = [99, 117, 116].map Char.ofNat :: r) (hl : P.laysLater = false) (hr : P.bearsReflect = false) (hd : P.doorFits [] = true) : P.mayEnter = true := by
  unfold Program.mayEnter
  rw [h, hw]
  dsimp only
  rw [may_words, hl, hr]
  dsimp only
  rw [hd]
  rfl
theorem lifts_final_of (h : P.initOrder.toList = cs) (hw : behindMainWord (wordsSigns cs) = [99, 117, 116].map Char.ofNat :: r) : P.liftsFinal = false := by
  unfold Program.liftsFinal Program.headLifts
  rw [h, hw]
  dsimp only
  rw [may_words]
  rfl
theorem make_of (h : P.initOrder.toList = cs) (hw : behindMainWord (wordsSigns cs) = [99, 117, 116].map Char.ofNat :: r) : P.make = some .cut := by
  unfold Program.make
  rw [h, hw]
  rfl
end
theorem may_enter : Try.prog.mayEnter = true := may_enter_of head_list head_words later_no reflect_no door_ok
theorem lifts_final : Try.prog.liftsFinal = false := lifts_final_of head_list head_words
theorem make_cut : Try.prog.make = some .cut := make_of head_list head_words
end Go.Proofs.Ytdomnbgjafdnjaa

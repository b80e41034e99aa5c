/- What the lexer reads of any word's line. -/
import Derived.Test.YtepankcnleeakaaGreatDoorLxA
import Derived.Test.YtepankcnleeakaaGreatDoorLxS1
import Derived.Test.YtepankcnleeakaaGreatDoorLxS2
import Derived.Test.YtepankcnleeakaaGreatDoorLxS3
import Derived.Test.YtepankcnleeakaaGreatDoorLxS4
import Derived.Test.YtepankcnleeakaaGreatDoorLxS5
import Derived.Test.YtepankcnleeakaaGreatDoorLxS6
namespace Go.Proofs.YtepankcnleeakaaGreatDoor.Ab
open Go
set_option maxRecDepth 100000
set_option maxHeartbeats 40000000

/-- A letter made great. -/
def upB (b : UInt8) : UInt8 := UInt8.ofNat (b.toNat - 32)
/-- A word's line: the word, in great letters, and two names that hold it. -/
def txOf (x : List UInt8) : List UInt8 := x ++ 32 :: (x.map upB ++ 32 :: (x ++ 95 :: 32 :: 95 :: x))
def toksOf (x : List UInt8) : List (List SV) := [tokC 2 x 0 0, tokC 2 x 0 ((x.length : Int) + 1), tokC 1 (x ++ [95]) 0 (2 * (x.length : Int) + 2), tokC 1 (95 :: x) 0 (3 * (x.length : Int) + 4)]
/-- What is asked of a word. -/
def LexW (x : List UInt8) : Prop := ∀ σ, lim LxC 13 [.one (.str (txOf x))] σ = some (.tup [.one (.lst (toksOf x)), .one (.int .i64 0), .one (.int .i64 0)], σ)
theorem lxv0 : LexW [97, 108, 108] := fun σ => by
  rw [show txOf [97, 108, 108] = [97, 108, 108, 32, 65, 76, 76, 32, 97, 108, 108, 95, 32, 95, 97, 108, 108] from by decide +kernel]
  exact lim_iff.2 ⟨300, lxw0 σ⟩
theorem lxv1 : LexW [97, 110, 100] := fun σ => by
  rw [show txOf [97, 110, 100] = [97, 110, 100, 32, 65, 78, 68, 32, 97, 110, 100, 95, 32, 95, 97, 110, 100] from by decide +kernel]
  exact lim_iff.2 ⟨300, lxw1 σ⟩
theorem lxv2 : LexW [97, 115] := fun σ => by
  rw [show txOf [97, 115] = [97, 115, 32, 65, 83, 32, 97, 115, 95, 32, 95, 97, 115] from by decide +kernel]
  exact lim_iff.2 ⟨300, lxw2 σ⟩
theorem lxv3 : LexW [97, 118, 103] := fun σ => by
  rw [show txOf [97, 118, 103] = [97, 118, 103, 32, 65, 86, 71, 32, 97, 118, 103, 95, 32, 95, 97, 118, 103] from by decide +kernel]
  exact lim_iff.2 ⟨300, lxw3 σ⟩
theorem lxv4 : LexW [98, 101, 116, 119, 101, 101, 110] := fun σ => by
  rw [show txOf [98, 101, 116, 119, 101, 101, 110] = [98, 101, 116, 119, 101, 101, 110, 32, 66, 69, 84, 87, 69, 69, 78, 32, 98, 101, 116, 119, 101, 101, 110, 95, 32, 95, 98, 101, 116, 119, 101, 101, 110] from by decide +kernel]
  exact lim_iff.2 ⟨300, lxw4 σ⟩
theorem lxv5 : LexW [98, 121] := fun σ => by
  rw [show txOf [98, 121] = [98, 121, 32, 66, 89, 32, 98, 121, 95, 32, 95, 98, 121] from by decide +kernel]
  exact lim_iff.2 ⟨300, lxw5 σ⟩
theorem lxv6 : LexW [99, 97, 115, 101] := fun σ => by
  rw [show txOf [99, 97, 115, 101] = [99, 97, 115, 101, 32, 67, 65, 83, 69, 32, 99, 97, 115, 101, 95, 32, 95, 99, 97, 115, 101] from by decide +kernel]
  exact lim_iff.2 ⟨300, lxw6 σ⟩
theorem lxv7 : LexW [99, 111, 110, 116, 101, 120, 116] := fun σ => by
  rw [show txOf [99, 111, 110, 116, 101, 120, 116] = [99, 111, 110, 116, 101, 120, 116, 32, 67, 79, 78, 84, 69, 88, 84, 32, 99, 111, 110, 116, 101, 120, 116, 95, 32, 95, 99, 111, 110, 116, 101, 120, 116] from by decide +kernel]
  exact lim_iff.2 ⟨300, lxw7 σ⟩
theorem lxv8 : LexW [99, 111, 117, 110, 116] := fun σ => by
  rw [show txOf [99, 111, 117, 110, 116] = [99, 111, 117, 110, 116, 32, 67, 79, 85, 78, 84, 32, 99, 111, 117, 110, 116, 95, 32, 95, 99, 111, 117, 110, 116] from by decide +kernel]
  exact lim_iff.2 ⟨300, lxw8 σ⟩
theorem lxv9 : LexW [99, 114, 101, 97, 116, 101] := fun σ => by
  rw [show txOf [99, 114, 101, 97, 116, 101] = [99, 114, 101, 97, 116, 101, 32, 67, 82, 69, 65, 84, 69, 32, 99, 114, 101, 97, 116, 101, 95, 32, 95, 99, 114, 101, 97, 116, 101] from by decide +kernel]
  exact lim_iff.2 ⟨300, lxw9 σ⟩
theorem lxv10 : LexW [100, 101, 108, 101, 116, 101] := fun σ => by
  rw [show txOf [100, 101, 108, 101, 116, 101] = [100, 101, 108, 101, 116, 101, 32, 68, 69, 76, 69, 84, 69, 32, 100, 101, 108, 101, 116, 101, 95, 32, 95, 100, 101, 108, 101, 116, 101] from by decide +kernel]
  exact lim_iff.2 ⟨300, lxw10 σ⟩
theorem lxv11 : LexW [100, 101, 115, 99] := fun σ => by
  rw [show txOf [100, 101, 115, 99] = [100, 101, 115, 99, 32, 68, 69, 83, 67, 32, 100, 101, 115, 99, 95, 32, 95, 100, 101, 115, 99] from by decide +kernel]
  exact lim_iff.2 ⟨300, lxw11 σ⟩
theorem lxv12 : LexW [100, 105, 115, 116, 105, 110, 99, 116] := fun σ => by
  rw [show txOf [100, 105, 115, 116, 105, 110, 99, 116] = [100, 105, 115, 116, 105, 110, 99, 116, 32, 68, 73, 83, 84, 73, 78, 67, 84, 32, 100, 105, 115, 116, 105, 110, 99, 116, 95, 32, 95, 100, 105, 115, 116, 105, 110, 99, 116] from by decide +kernel]
  exact lim_iff.2 ⟨300, lxw12 σ⟩
theorem lxv13 : LexW [101, 108, 115, 101] := fun σ => by
  rw [show txOf [101, 108, 115, 101] = [101, 108, 115, 101, 32, 69, 76, 83, 69, 32, 101, 108, 115, 101, 95, 32, 95, 101, 108, 115, 101] from by decide +kernel]
  exact lim_iff.2 ⟨300, lxw13 σ⟩
theorem lxv14 : LexW [101, 110, 100] := fun σ => by
  rw [show txOf [101, 110, 100] = [101, 110, 100, 32, 69, 78, 68, 32, 101, 110, 100, 95, 32, 95, 101, 110, 100] from by decide +kernel]
  exact lim_iff.2 ⟨300, lxw14 σ⟩
theorem lxv15 : LexW [101, 118, 101, 110, 116, 115] := fun σ => by
  rw [show txOf [101, 118, 101, 110, 116, 115] = [101, 118, 101, 110, 116, 115, 32, 69, 86, 69, 78, 84, 83, 32, 101, 118, 101, 110, 116, 115, 95, 32, 95, 101, 118, 101, 110, 116, 115] from by decide +kernel]
  exact lim_iff.2 ⟨300, lxw15 σ⟩
theorem lxv16 : LexW [101, 118, 101, 114, 121] := fun σ => by
  rw [show txOf [101, 118, 101, 114, 121] = [101, 118, 101, 114, 121, 32, 69, 86, 69, 82, 89, 32, 101, 118, 101, 114, 121, 95, 32, 95, 101, 118, 101, 114, 121] from by decide +kernel]
  exact lim_iff.2 ⟨300, lxw16 σ⟩
theorem lxv17 : LexW [102, 97, 108, 115, 101] := fun σ => by
  rw [show txOf [102, 97, 108, 115, 101] = [102, 97, 108, 115, 101, 32, 70, 65, 76, 83, 69, 32, 102, 97, 108, 115, 101, 95, 32, 95, 102, 97, 108, 115, 101] from by decide +kernel]
  exact lim_iff.2 ⟨300, lxw17 σ⟩
theorem lxv18 : LexW [102, 105, 114, 115, 116] := fun σ => by
  rw [show txOf [102, 105, 114, 115, 116] = [102, 105, 114, 115, 116, 32, 70, 73, 82, 83, 84, 32, 102, 105, 114, 115, 116, 95, 32, 95, 102, 105, 114, 115, 116] from by decide +kernel]
  exact lim_iff.2 ⟨300, lxw18 σ⟩
theorem lxv19 : LexW [102, 114, 111, 109] := fun σ => by
  rw [show txOf [102, 114, 111, 109] = [102, 114, 111, 109, 32, 70, 82, 79, 77, 32, 102, 114, 111, 109, 95, 32, 95, 102, 114, 111, 109] from by decide +kernel]
  exact lim_iff.2 ⟨300, lxw19 σ⟩
theorem lxv20 : LexW [103, 114, 111, 117, 112] := fun σ => by
  rw [show txOf [103, 114, 111, 117, 112] = [103, 114, 111, 117, 112, 32, 71, 82, 79, 85, 80, 32, 103, 114, 111, 117, 112, 95, 32, 95, 103, 114, 111, 117, 112] from by decide +kernel]
  exact lim_iff.2 ⟨300, lxw20 σ⟩
theorem lxv21 : LexW [104, 97, 118, 105, 110, 103] := fun σ => by
  rw [show txOf [104, 97, 118, 105, 110, 103] = [104, 97, 118, 105, 110, 103, 32, 72, 65, 86, 73, 78, 71, 32, 104, 97, 118, 105, 110, 103, 95, 32, 95, 104, 97, 118, 105, 110, 103] from by decide +kernel]
  exact lim_iff.2 ⟨300, lxw21 σ⟩
theorem lxv22 : LexW [105, 110] := fun σ => by
  rw [show txOf [105, 110] = [105, 110, 32, 73, 78, 32, 105, 110, 95, 32, 95, 105, 110] from by decide +kernel]
  exact lim_iff.2 ⟨300, lxw22 σ⟩
theorem lxv23 : LexW [105, 110, 115, 101, 114, 116] := fun σ => by
  rw [show txOf [105, 110, 115, 101, 114, 116] = [105, 110, 115, 101, 114, 116, 32, 73, 78, 83, 69, 82, 84, 32, 105, 110, 115, 101, 114, 116, 95, 32, 95, 105, 110, 115, 101, 114, 116] from by decide +kernel]
  exact lim_iff.2 ⟨300, lxw23 σ⟩
theorem lxv24 : LexW [105, 110, 116, 111] := fun σ => by
  rw [show txOf [105, 110, 116, 111] = [105, 110, 116, 111, 32, 73, 78, 84, 79, 32, 105, 110, 116, 111, 95, 32, 95, 105, 110, 116, 111] from by decide +kernel]
  exact lim_iff.2 ⟨300, lxw24 σ⟩
theorem lxv25 : LexW [105, 114, 115, 116, 114, 101, 97, 109] := fun σ => by
  rw [show txOf [105, 114, 115, 116, 114, 101, 97, 109] = [105, 114, 115, 116, 114, 101, 97, 109, 32, 73, 82, 83, 84, 82, 69, 65, 77, 32, 105, 114, 115, 116, 114, 101, 97, 109, 95, 32, 95, 105, 114, 115, 116, 114, 101, 97, 109] from by decide +kernel]
  exact lim_iff.2 ⟨300, lxw25 σ⟩
theorem lxv26 : LexW [105, 115] := fun σ => by
  rw [show txOf [105, 115] = [105, 115, 32, 73, 83, 32, 105, 115, 95, 32, 95, 105, 115] from by decide +kernel]
  exact lim_iff.2 ⟨300, lxw26 σ⟩
theorem lxv27 : LexW [105, 115, 116, 114, 101, 97, 109] := fun σ => by
  rw [show txOf [105, 115, 116, 114, 101, 97, 109] = [105, 115, 116, 114, 101, 97, 109, 32, 73, 83, 84, 82, 69, 65, 77, 32, 105, 115, 116, 114, 101, 97, 109, 95, 32, 95, 105, 115, 116, 114, 101, 97, 109] from by decide +kernel]
  exact lim_iff.2 ⟨300, lxw27 σ⟩
theorem lxv28 : LexW [108, 97, 115, 116] := fun σ => by
  rw [show txOf [108, 97, 115, 116] = [108, 97, 115, 116, 32, 76, 65, 83, 84, 32, 108, 97, 115, 116, 95, 32, 95, 108, 97, 115, 116] from by decide +kernel]
  exact lim_iff.2 ⟨300, lxw28 σ⟩
theorem lxv29 : LexW [109, 97, 116, 99, 104, 101, 100] := fun σ => by
  rw [show txOf [109, 97, 116, 99, 104, 101, 100] = [109, 97, 116, 99, 104, 101, 100, 32, 77, 65, 84, 67, 72, 69, 68, 32, 109, 97, 116, 99, 104, 101, 100, 95, 32, 95, 109, 97, 116, 99, 104, 101, 100] from by decide +kernel]
  exact lim_iff.2 ⟨300, lxw29 σ⟩
theorem lxv30 : LexW [109, 97, 120] := fun σ => by
  rw [show txOf [109, 97, 120] = [109, 97, 120, 32, 77, 65, 88, 32, 109, 97, 120, 95, 32, 95, 109, 97, 120] from by decide +kernel]
  exact lim_iff.2 ⟨300, lxw30 σ⟩
theorem lxv31 : LexW [109, 101, 114, 103, 101] := fun σ => by
  rw [show txOf [109, 101, 114, 103, 101] = [109, 101, 114, 103, 101, 32, 77, 69, 82, 71, 69, 32, 109, 101, 114, 103, 101, 95, 32, 95, 109, 101, 114, 103, 101] from by decide +kernel]
  exact lim_iff.2 ⟨300, lxw31 σ⟩
theorem lxv32 : LexW [109, 105, 110] := fun σ => by
  rw [show txOf [109, 105, 110] = [109, 105, 110, 32, 77, 73, 78, 32, 109, 105, 110, 95, 32, 95, 109, 105, 110] from by decide +kernel]
  exact lim_iff.2 ⟨300, lxw32 σ⟩
theorem lxv33 : LexW [109, 115] := fun σ => by
  rw [show txOf [109, 115] = [109, 115, 32, 77, 83, 32, 109, 115, 95, 32, 95, 109, 115] from by decide +kernel]
  exact lim_iff.2 ⟨300, lxw33 σ⟩
theorem lxv34 : LexW [110, 111, 116] := fun σ => by
  rw [show txOf [110, 111, 116] = [110, 111, 116, 32, 78, 79, 84, 32, 110, 111, 116, 95, 32, 95, 110, 111, 116] from by decide +kernel]
  exact lim_iff.2 ⟨300, lxw34 σ⟩
theorem lxv35 : LexW [110, 117, 108, 108] := fun σ => by
  rw [show txOf [110, 117, 108, 108] = [110, 117, 108, 108, 32, 78, 85, 76, 76, 32, 110, 117, 108, 108, 95, 32, 95, 110, 117, 108, 108] from by decide +kernel]
  exact lim_iff.2 ⟨300, lxw35 σ⟩
theorem lxv36 : LexW [111, 110] := fun σ => by
  rw [show txOf [111, 110] = [111, 110, 32, 79, 78, 32, 111, 110, 95, 32, 95, 111, 110] from by decide +kernel]
  exact lim_iff.2 ⟨300, lxw36 σ⟩
theorem lxv37 : LexW [111, 114] := fun σ => by
  rw [show txOf [111, 114] = [111, 114, 32, 79, 82, 32, 111, 114, 95, 32, 95, 111, 114] from by decide +kernel]
  exact lim_iff.2 ⟨300, lxw37 σ⟩
theorem lxv38 : LexW [111, 114, 100, 101, 114] := fun σ => by
  rw [show txOf [111, 114, 100, 101, 114] = [111, 114, 100, 101, 114, 32, 79, 82, 68, 69, 82, 32, 111, 114, 100, 101, 114, 95, 32, 95, 111, 114, 100, 101, 114] from by decide +kernel]
  exact lim_iff.2 ⟨300, lxw38 σ⟩
theorem lxv39 : LexW [111, 117, 116, 112, 117, 116] := fun σ => by
  rw [show txOf [111, 117, 116, 112, 117, 116] = [111, 117, 116, 112, 117, 116, 32, 79, 85, 84, 80, 85, 84, 32, 111, 117, 116, 112, 117, 116, 95, 32, 95, 111, 117, 116, 112, 117, 116] from by decide +kernel]
  exact lim_iff.2 ⟨300, lxw39 σ⟩
theorem lxv40 : LexW [111, 118, 101, 114, 108, 97, 112, 112, 105, 110, 103] := fun σ => by
  rw [show txOf [111, 118, 101, 114, 108, 97, 112, 112, 105, 110, 103] = [111, 118, 101, 114, 108, 97, 112, 112, 105, 110, 103, 32, 79, 86, 69, 82, 76, 65, 80, 80, 73, 78, 71, 32, 111, 118, 101, 114, 108, 97, 112, 112, 105, 110, 103, 95, 32, 95, 111, 118, 101, 114, 108, 97, 112, 112, 105, 110, 103] from by decide +kernel]
  exact lim_iff.2 ⟨300, lxw40 σ⟩
theorem lxv41 : LexW [112, 97, 114, 116, 105, 116, 105, 111, 110] := fun σ => by
  rw [show txOf [112, 97, 114, 116, 105, 116, 105, 111, 110] = [112, 97, 114, 116, 105, 116, 105, 111, 110, 32, 80, 65, 82, 84, 73, 84, 73, 79, 78, 32, 112, 97, 114, 116, 105, 116, 105, 111, 110, 95, 32, 95, 112, 97, 114, 116, 105, 116, 105, 111, 110] from by decide +kernel]
  exact lim_iff.2 ⟨300, lxw41 σ⟩
theorem lxv42 : LexW [112, 97, 116, 116, 101, 114, 110] := fun σ => by
  rw [show txOf [112, 97, 116, 116, 101, 114, 110] = [112, 97, 116, 116, 101, 114, 110, 32, 80, 65, 84, 84, 69, 82, 78, 32, 112, 97, 116, 116, 101, 114, 110, 95, 32, 95, 112, 97, 116, 116, 101, 114, 110] from by decide +kernel]
  exact lim_iff.2 ⟨300, lxw42 σ⟩
theorem lxv43 : LexW [114, 115, 116, 114, 101, 97, 109] := fun σ => by
  rw [show txOf [114, 115, 116, 114, 101, 97, 109] = [114, 115, 116, 114, 101, 97, 109, 32, 82, 83, 84, 82, 69, 65, 77, 32, 114, 115, 116, 114, 101, 97, 109, 95, 32, 95, 114, 115, 116, 114, 101, 97, 109] from by decide +kernel]
  exact lim_iff.2 ⟨300, lxw43 σ⟩
theorem lxv44 : LexW [115, 99, 104, 101, 109, 97] := fun σ => by
  rw [show txOf [115, 99, 104, 101, 109, 97] = [115, 99, 104, 101, 109, 97, 32, 83, 67, 72, 69, 77, 65, 32, 115, 99, 104, 101, 109, 97, 95, 32, 95, 115, 99, 104, 101, 109, 97] from by decide +kernel]
  exact lim_iff.2 ⟨300, lxw44 σ⟩
theorem lxv45 : LexW [115, 101, 108, 101, 99, 116] := fun σ => by
  rw [show txOf [115, 101, 108, 101, 99, 116] = [115, 101, 108, 101, 99, 116, 32, 83, 69, 76, 69, 67, 84, 32, 115, 101, 108, 101, 99, 116, 95, 32, 95, 115, 101, 108, 101, 99, 116] from by decide +kernel]
  exact lim_iff.2 ⟨300, lxw45 σ⟩
theorem lxv46 : LexW [115, 101, 116] := fun σ => by
  rw [show txOf [115, 101, 116] = [115, 101, 116, 32, 83, 69, 84, 32, 115, 101, 116, 95, 32, 95, 115, 101, 116] from by decide +kernel]
  exact lim_iff.2 ⟨300, lxw46 σ⟩
theorem lxv47 : LexW [115, 110, 97, 112, 115, 104, 111, 116] := fun σ => by
  rw [show txOf [115, 110, 97, 112, 115, 104, 111, 116] = [115, 110, 97, 112, 115, 104, 111, 116, 32, 83, 78, 65, 80, 83, 72, 79, 84, 32, 115, 110, 97, 112, 115, 104, 111, 116, 95, 32, 95, 115, 110, 97, 112, 115, 104, 111, 116] from by decide +kernel]
  exact lim_iff.2 ⟨300, lxw47 σ⟩
theorem lxv48 : LexW [115, 116, 97, 114, 116] := fun σ => by
  rw [show txOf [115, 116, 97, 114, 116] = [115, 116, 97, 114, 116, 32, 83, 84, 65, 82, 84, 32, 115, 116, 97, 114, 116, 95, 32, 95, 115, 116, 97, 114, 116] from by decide +kernel]
  exact lim_iff.2 ⟨300, lxw48 σ⟩
theorem lxv49 : LexW [115, 117, 109] := fun σ => by
  rw [show txOf [115, 117, 109] = [115, 117, 109, 32, 83, 85, 77, 32, 115, 117, 109, 95, 32, 95, 115, 117, 109] from by decide +kernel]
  exact lim_iff.2 ⟨300, lxw49 σ⟩
theorem lxv50 : LexW [116, 104, 101, 110] := fun σ => by
  rw [show txOf [116, 104, 101, 110] = [116, 104, 101, 110, 32, 84, 72, 69, 78, 32, 116, 104, 101, 110, 95, 32, 95, 116, 104, 101, 110] from by decide +kernel]
  exact lim_iff.2 ⟨300, lxw50 σ⟩
theorem lxv51 : LexW [116, 105, 109, 101, 114] := fun σ => by
  rw [show txOf [116, 105, 109, 101, 114] = [116, 105, 109, 101, 114, 32, 84, 73, 77, 69, 82, 32, 116, 105, 109, 101, 114, 95, 32, 95, 116, 105, 109, 101, 114] from by decide +kernel]
  exact lim_iff.2 ⟨300, lxw51 σ⟩
theorem lxv52 : LexW [116, 114, 117, 101] := fun σ => by
  rw [show txOf [116, 114, 117, 101] = [116, 114, 117, 101, 32, 84, 82, 85, 69, 32, 116, 114, 117, 101, 95, 32, 95, 116, 114, 117, 101] from by decide +kernel]
  exact lim_iff.2 ⟨300, lxw52 σ⟩
theorem lxv53 : LexW [117, 112, 100, 97, 116, 101] := fun σ => by
  rw [show txOf [117, 112, 100, 97, 116, 101] = [117, 112, 100, 97, 116, 101, 32, 85, 80, 68, 65, 84, 69, 32, 117, 112, 100, 97, 116, 101, 95, 32, 95, 117, 112, 100, 97, 116, 101] from by decide +kernel]
  exact lim_iff.2 ⟨300, lxw53 σ⟩
theorem lxv54 : LexW [119, 104, 101, 110] := fun σ => by
  rw [show txOf [119, 104, 101, 110] = [119, 104, 101, 110, 32, 87, 72, 69, 78, 32, 119, 104, 101, 110, 95, 32, 95, 119, 104, 101, 110] from by decide +kernel]
  exact lim_iff.2 ⟨300, lxw54 σ⟩
theorem lxv55 : LexW [119, 104, 101, 114, 101] := fun σ => by
  rw [show txOf [119, 104, 101, 114, 101] = [119, 104, 101, 114, 101, 32, 87, 72, 69, 82, 69, 32, 119, 104, 101, 114, 101, 95, 32, 95, 119, 104, 101, 114, 101] from by decide +kernel]
  exact lim_iff.2 ⟨300, lxw55 σ⟩
theorem lxv56 : LexW [119, 105, 110, 100, 111, 119] := fun σ => by
  rw [show txOf [119, 105, 110, 100, 111, 119] = [119, 105, 110, 100, 111, 119, 32, 87, 73, 78, 68, 79, 87, 32, 119, 105, 110, 100, 111, 119, 95, 32, 95, 119, 105, 110, 100, 111, 119] from by decide +kernel]
  exact lim_iff.2 ⟨300, lxw56 σ⟩
theorem lxv57 : LexW [119, 105, 116, 104, 105, 110] := fun σ => by
  rw [show txOf [119, 105, 116, 104, 105, 110] = [119, 105, 116, 104, 105, 110, 32, 87, 73, 84, 72, 73, 78, 32, 119, 105, 116, 104, 105, 110, 95, 32, 95, 119, 105, 116, 104, 105, 110] from by decide +kernel]
  exact lim_iff.2 ⟨300, lxw57 σ⟩
theorem lex_small : ∀ x ∈ wordsL, LexW x := by
  simp only [wordsL, List.forall_mem_cons]
  exact ⟨lxv0, lxv1, lxv2, lxv3, lxv4, lxv5, lxv6, lxv7, lxv8, lxv9, lxv10, lxv11, lxv12, lxv13, lxv14, lxv15, lxv16, lxv17, lxv18, lxv19, lxv20, lxv21, lxv22, lxv23, lxv24, lxv25, lxv26, lxv27, lxv28, lxv29, lxv30, lxv31, lxv32, lxv33, lxv34, lxv35, lxv36, lxv37, lxv38, lxv39, lxv40, lxv41, lxv42, lxv43, lxv44, lxv45, lxv46, lxv47, lxv48, lxv49, lxv50, lxv51, lxv52, lxv53, lxv54, lxv55, lxv56, lxv57, by simp⟩
theorem words_low : ∀ x ∈ wordsL, ∀ b ∈ x, 97 ≤ b.toNat ∧ b.toNat ≤ 122 := by decide +kernel
theorem words_len : ∀ x ∈ wordsL, x.length ≤ 20 := by decide +kernel
end Go.Proofs.YtepankcnleeakaaGreatDoor.Ab

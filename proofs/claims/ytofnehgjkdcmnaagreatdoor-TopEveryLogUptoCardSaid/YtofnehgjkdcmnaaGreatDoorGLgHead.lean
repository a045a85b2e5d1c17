/- The walks of a frame's head and tail. -/
import Derived.Laws.IdiomStrings
import Derived.Test.YtofnehgjkdcmnaaGreatDoorGLgDisk5
import Derived.Test.YtofnehgjkdcmnaaGreatDoorGLgP
namespace Go.Proofs.YtofnehgjkdcmnaaGreatDoor
open Go.RowKit Hg

theorem u8_nat (k : Nat) : ((k % 256 : Nat) : Int) = ((UInt8.ofNat k).toNat : Int) := by simp
set_option maxHeartbeats 1000000 in
set_option maxRecDepth 100000 in
theorem frHead_any (n : Nat) (w : World) (hn : n ≤ 65536) :
    Calls Tryz.prog 107 #[i64 (n : Int)] w fun e w' => e = .returned (strV (hd3 n)) ∧ Chg [] w w' := by
  have hw := run_convert_bytes_back (P := Tryz.prog) (w.alloc (.cells #[.int .u8 (((UInt8.ofNat (n / 65536)).toNat : Nat) : Int), .int .u8 (((UInt8.ofNat (n / 256)).toNat : Nat) : Int), .int .u8 (((UInt8.ofNat n).toNat : Nat) : Int)] 5)) 99 9 5 ⟨w.heap.size, 0, none⟩ 3 (hd3 n) Tryz.underlying99 Tryz.underlying5 Tryz.underlying9 (fun j hj => by
    have hB := Blk.new w 5 #[.int .u8 (((UInt8.ofNat (n / 65536)).toNat : Nat) : Int), .int .u8 (((UInt8.ofNat (n / 256)).toNat : Nat) : Int), .int .u8 (((UInt8.ofNat n).toNat : Nat) : Int)]
    have hj3 : j < 3 := hj
    rcases (by omega : j = 0 ∨ j = 1 ∨ j = 2) with rfl | rfl | rfl
    · exact hB.cell 0
    · exact hB.cell 1
    · exact hB.cell 2)
  have e0 : (n : Int) / 65536 = (((UInt8.ofNat (n / 65536)).toNat : Nat) : Int) := by rw [← u8_nat]; omega
  have e1 : (n : Int) / 256 % 256 = (((UInt8.ofNat (n / 256)).toNat : Nat) : Int) := by rw [← u8_nat]; omega
  have e2 : (n : Int) % 256 = (((UInt8.ofNat n).toNat : Nat) : Int) := by rw [← u8_nat]; omega
  rw [show (hd3 n).length = 3 from rfl] at hw
  rw [← e0, ← e1, ← e2] at hw
  have HW := Lib.hid hw
  clear e0 e1 e2 hw
  go_enter Tryz.func107, Tryz.ntmps107
  go_wp2_with fail
  rw [HW.out]
  go_wp2_with fail
  go_returns
  exact ⟨rfl, (Chg.refl [] w).alloc _⟩
def tl4 (c : Nat) : Bytes := [UInt8.ofNat (c / 16777216), UInt8.ofNat (c / 65536), UInt8.ofNat (c / 256), UInt8.ofNat c]
set_option maxHeartbeats 1000000 in
set_option maxRecDepth 100000 in
theorem frTail_any (c : Nat) (w : World) (hn : c < 4294967296) :
    Calls Tryz.prog 98 #[.int .u32 (c : Int)] w fun e w' => e = .returned (strV (tl4 c)) ∧ Chg [] w w' := by
  have hw := run_convert_bytes_back (P := Tryz.prog) (w.alloc (.cells #[.int .u8 (((UInt8.ofNat (c / 16777216)).toNat : Nat) : Int), .int .u8 (((UInt8.ofNat (c / 65536)).toNat : Nat) : Int), .int .u8 (((UInt8.ofNat (c / 256)).toNat : Nat) : Int), .int .u8 (((UInt8.ofNat c).toNat : Nat) : Int)] 5)) 99 9 5 ⟨w.heap.size, 0, none⟩ 4 (tl4 c) Tryz.underlying99 Tryz.underlying5 Tryz.underlying9 (fun j hj => by
    have hB := Blk.new w 5 #[.int .u8 (((UInt8.ofNat (c / 16777216)).toNat : Nat) : Int), .int .u8 (((UInt8.ofNat (c / 65536)).toNat : Nat) : Int), .int .u8 (((UInt8.ofNat (c / 256)).toNat : Nat) : Int), .int .u8 (((UInt8.ofNat c).toNat : Nat) : Int)]
    have hj3 : j < 4 := hj
    rcases (by omega : j = 0 ∨ j = 1 ∨ j = 2 ∨ j = 3) with rfl | rfl | rfl | rfl
    · exact hB.cell 0
    · exact hB.cell 1
    · exact hB.cell 2
    · exact hB.cell 3)
  have e0 : (c : Int) / 16777216 = (((UInt8.ofNat (c / 16777216)).toNat : Nat) : Int) := by rw [← u8_nat]; omega
  have e1 : (c : Int) / 65536 % 256 = (((UInt8.ofNat (c / 65536)).toNat : Nat) : Int) := by rw [← u8_nat]; omega
  have e2 : (c : Int) / 256 % 256 = (((UInt8.ofNat (c / 256)).toNat : Nat) : Int) := by rw [← u8_nat]; omega
  have e3 : (c : Int) % 256 = (((UInt8.ofNat c).toNat : Nat) : Int) := by rw [← u8_nat]; omega
  rw [show (tl4 c).length = 4 from rfl] at hw
  rw [← e0, ← e1, ← e2, ← e3] at hw
  have HW := Lib.hid hw
  clear e0 e1 e2 e3 hw
  go_enter Tryz.func98, Tryz.ntmps98
  go_wp2_with fail
  rw [HW.out]
  go_wp2_with fail
  go_returns
  exact ⟨rfl, (Chg.refl [] w).alloc _⟩
end Go.Proofs.YtofnehgjkdcmnaaGreatDoor

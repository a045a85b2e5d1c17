/- The walk of Frame. -/
import Derived.Laws.Concat
import Derived.Test.YtofnehgjkdcmnaaGreatDoorGLgSum
namespace Go.Proofs.YtofnehgjkdcmnaaGreatDoor
open Go.RowKit Hg

theorem cat_any (a b : Bytes) (h : a.length + b.length ≤ maxLen) (w : World) : (Op.stringOp .add (ByteArray.mk a.toArray) (ByteArray.mk b.toArray)).run Tryz.prog w = .ok (strV (a ++ b)) w := by
  refine (run_string_add_sum _ _ _ ?_).trans (by rw [cat_mk])
  show a.toArray.size + b.toArray.size ≤ _
  simp only [List.size_toArray]
  exact h
/-- the tail of what stands ahead of it -/
def tlT (T : Nat → Nat) (s : Bytes) : Bytes := tl4 (4294967295 - crcF T 4294967295 s)
set_option maxHeartbeats 1000000 in
set_option maxRecDepth 100000 in
theorem frame_any (s : Bytes) (w : World) (T : Nat → Nat) (hT : ∀ i, i < 16 → T i < 4294967296) (hN : ∀ i, i < 16 → w.cell? ⟨0, i, none⟩ = some (.int .u32 (T i : Int))) (hw0 : 0 < w.heap.size) (hs : s.length ≤ 65536) :
    Calls Tryz.prog 71 #[strV s] w fun e w' => e = .returned (.tuple #[strV (frm (tlT T) s), i64 0]) ∧ Chg [] w w' := by
  have hle : ¬ ((65536 : Int) < (s.length : Int)) := by omega
  have HH := Lib.hid (frHead_any s.length w hs)
  have HT := Lib.hid hT
  have HN := Lib.hid hN
  have HW0 := Lib.hid hw0
  clear hT hN hw0
  have hc1 := cat_any (hd3 s.length) s (by rw [hd3_length]; unfold maxLen; omega)
  go_enter Tryz.func71, Tryz.ntmps71
  go_wp2_with fail
  (with_reducible refine HH.out.mono ?_)
  rintro e w1 ⟨rfl, hg1⟩
  have HG1 := Lib.hid hg1
  clear hg1
  go_wp2_with fail
  have hB := Blk.new w1 9 #[strV (hd3 s.length), strV s]
  have hC1 : Chg [] w (w1.alloc (.cells #[strV (hd3 s.length), strV s] 9)) := HG1.out.alloc _
  have HS := Lib.hid (sum_any w1.heap.size 2 [hd3 s.length, s] (w1.alloc (.cells #[strV (hd3 s.length), strV s] 9)) (fun j hj => by
      have hj2 : j < 2 := hj
      rcases (by omega : j = 0 ∨ j = 1) with rfl | rfl
      · exact hB.cell 0
      · exact hB.cell 1) (by show 2 ≤ 1000; omega) (by intro x hx; simp only [List.mem_cons, List.not_mem_nil, or_false] at hx; rcases hx with h | h <;> rw [h] <;> (try rw [hd3_length]) <;> omega) T HT.out (fun i hi => by rw [hC1.cell (p := ⟨0, i, none⟩) HW0.out (by simp)]; exact HN.out i hi) (Nat.lt_of_lt_of_le HW0.out hC1.size))
  rw [show [hd3 s.length, s].length = 2 from rfl] at HS
  have HC1 := Lib.hid hC1
  clear hC1 hB
  (with_reducible refine HS.out.mono ?_)
  rintro e w2 ⟨rfl, hg2⟩
  rw [show [hd3 s.length, s].flatten = hd3 s.length ++ s by simp]
  have HG2 : Hid (Chg [] w w2) := HC1.out.trans hg2
  have hlt : 4294967295 - crcF T 4294967295 (hd3 s.length ++ s) < 4294967296 := by omega
  have HTL := Lib.hid (fun w => frTail_any (4294967295 - crcF T 4294967295 (hd3 s.length ++ s)) w hlt)
  have hc2 := cat_any (hd3 s.length ++ s) (tlT T (hd3 s.length ++ s)) (by have : (tlT T (hd3 s.length ++ s)).length = 4 := rfl; rw [this, List.length_append, hd3_length]; unfold maxLen; omega)
  have e9 : tl4 (4294967295 - crcF T 4294967295 (hd3 s.length ++ s)) = tlT T (hd3 s.length ++ s) := rfl
  rw [e9] at HTL
  clear hlt hg2 HG1 e9 HC1 HS HH
  generalize 4294967295 - crcF T 4294967295 (hd3 s.length ++ s) = c at HTL ⊢
  go_wp2_with fail
  (with_reducible refine (HTL.out _).mono ?_)
  rintro e w3 ⟨rfl, hg3⟩
  have HG3 : Hid (Chg [] w w3) := HG2.out.trans hg3
  clear hg3
  go_wp2_with fail
  go_returns
  exact ⟨rfl, HG3.out⟩
end Go.Proofs.YtofnehgjkdcmnaaGreatDoor

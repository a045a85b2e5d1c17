/- The walk of codec.TakeID. -/
import Derived.Deep.RegionWith
import Derived.Test.YtofnehgjkdcmnaaGreatDoorGSnd
import Derived.Test.YtofnehgjkdcmnaaGreatDoorGPutM
namespace Go.Proofs.YtofnehgjkdcmnaaGreatDoor
open Go.RowKit Hg

set_option maxHeartbeats 4000000 in
set_option maxRecDepth 100000 in
theorem takeID_any (i : ID) (rest : Bytes) (p : Nat) (w : World) (hi : chkID i = true) (h : Rdr w p (eID i ++ rest)) (hs : rest.length ≤ 1000000000) :
    Calls Tryz.prog 44 #[.pointer (some ⟨p, 0, none⟩)] w (RetR (idV i) p rest w) := by
  obtain ⟨I1, I2, I3⟩ := id_i64 hi
  have h0 : Rdr (w.alloc (.cells #[i64 0, i64 0, i64 0] 73)) p (oct i.shard ++ (oct i.index ++ (oct i.gen ++ rest))) := by
    have := Blk.alloc h (.cells #[i64 0, i64 0, i64 0] 73)
    simp only [eID, List.append_assoc] at this
    exact this
  have hp := h.lt
  have o2 : (oct i.index).length ≤ 9 := by have := octs_len (xs := [i.index]) (by simpa using I2); simpa [octs] using this
  have o3 : (oct i.gen).length ≤ 9 := by have := octs_len (xs := [i.gen]) (by simpa using I3); simpa [octs] using this
  have b1 : (oct i.index ++ (oct i.gen ++ rest)).length ≤ 1099511627776 := by simp; omega
  have b2 : (oct i.gen ++ rest).length ≤ 1099511627776 := by simp; omega
  have H0 := Lib.hid h0
  have ok := okArg_t
  have C1 := Lib.hid (fun w => checkID_any i w)
  rw [hi] at C1
  clear h h0 o2 o3 hi
  go_enter Tryz.func44, Tryz.ntmps44
  go_wp2_with (first
    | (go_at_call 38; refine (rInt_any i.shard _ p _ I1 H0.out b1).mono ?_; rintro e w1 ⟨rfl, hr1, hg1⟩; have H1 := Lib.hid hr1; clear hr1)
    | (go_at_call 38; refine (rInt_any i.index _ p _ I2 H1.out b2).mono ?_; rintro e w2 ⟨rfl, hr2, hg2⟩; have H2 := Lib.hid hr2; clear hr2)
    | (go_at_call 38; refine (rInt_any i.gen _ p _ I3 H2.out (by omega)).mono ?_; rintro e w3 ⟨rfl, hr3, hg3⟩))
  have hgW := (((Chg.refl [p] w).alloc _).trans hg1).trans (hg2.trans hg3)
  have hlt : w.heap.size < w3.heap.size := by have := hg1.size; have := hg2.size; have := hg3.size; simp at *; omega
  have hB : Blk w3 w.heap.size 73 #[i64 0, i64 0, i64 0] := (((Blk.new w _ _).chg hg1 (by simp; omega)).chg hg2 (by simp; omega)).chg hg3 (by simp; omega)
  clear hg1 hg2 hg3 H0 H1 H2 b1 b2 I1 I2 I3
  go_region_with (first
    | (go_at_call 65; refine (C1.out _).mono ?_; rintro e w4 ⟨rfl, hg4⟩; have k4 := cells_keep hg4 (b := w3.heap.size) (by simp) (by simp))
    | (go_at_call 80; refine (soundID_any i p rest _ (Blk.chg (Blk.drew (Blk.alloc hr3 _)) hg4 (by simp))).mono ?_; rintro e w5 ⟨rfl, hg5⟩; have hB5 := ((hB.alloc (.cells #[i64 i.shard, i64 i.index, i64 i.gen] 73)).drew.chg hg4 (by simp)).chg hg5 (by simp); have f5 := fun j => hB5.frozen j; have q0 : w5.cell? ⟨w.heap.size, 0, none⟩ = some (i64 0) := hB5.cell 0; have q1 : w5.cell? ⟨w.heap.size, 1, none⟩ = some (i64 0) := hB5.cell 1; have q2 : w5.cell? ⟨w.heap.size, 2, none⟩ = some (i64 0) := hB5.cell 2))
  all_goals (
    have hR5 : Rdr w5 p rest := (Blk.chg (Blk.drew (Blk.alloc hr3 (.cells #[i64 i.shard, i64 i.index, i64 i.gen] 73))) hg4 (by simp)).chg hg5 (by simp)
    have hC5 : Chg [p] w w5 := ((hgW.alloc (.cells #[i64 i.shard, i64 i.index, i64 i.gen] 73)).drew.then_ hg4 (by simp)).then_ hg5 (by simp)
    have hpne : p ≠ w.heap.size := by omega
    have hBf : Blk (((w5.setCell ⟨w.heap.size, 0, none⟩ (i64 i.shard)).setCell ⟨w.heap.size, 1, none⟩ (i64 i.index)).setCell ⟨w.heap.size, 2, none⟩ (i64 i.gen)) w.heap.size 73 #[i64 i.shard, i64 i.index, i64 i.gen] := ((hB5.set_ 0 _).set_ 1 _).set_ 2 _
    clear k4 hgW hB hr3 hg4 hg5 hB5
    go_wp2_with fail
    (try simp only [Exit.inBlock, Exit.then])
    refine bodyPost_ret (results_cell_row rfl _ _ w.heap.size 73 #[i64 i.shard, i64 i.index, i64 i.gen] (0, 0) _ rfl hBf Tryz.underlying73 rfl (by kernel_rfl)) rfl ?_
    refine ⟨rfl, ?_, ?_⟩
    · show Blk _ p _ _
      repeat (refine Blk.far ?_ hpne _)
      exact hR5
    · repeat (refine Chg.setCell ?_ (.inr (Nat.le_refl _)) _)
      exact hC5)
end Go.Proofs.YtofnehgjkdcmnaaGreatDoor

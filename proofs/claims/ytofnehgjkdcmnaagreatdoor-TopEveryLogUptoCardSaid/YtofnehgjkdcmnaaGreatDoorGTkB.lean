/- The walk of codec.TakeBundle. -/
import Derived.Deep.RegionWith
import Derived.Test.YtofnehgjkdcmnaaGreatDoorGTkI
import Derived.Test.YtofnehgjkdcmnaaGreatDoorGTake
import Derived.Test.YtofnehgjkdcmnaaGreatDoorGSet
namespace Go.Proofs.YtofnehgjkdcmnaaGreatDoor
open Go.RowKit Hg

theorem take_any (b : Bun) (rest : Bytes) (p : Nat) (w : World) (hb : right b = true) (h : Rdr w p (eParts b ++ rest)) (hs : rest.length ≤ 1000000000) :
    Calls Tryz.prog 77 #[.pointer (some ⟨p, 0, none⟩)] w (RetR (bunV { b with id := id0 }) p rest w) := callsIn_wide.1 (take_in b rest p w hb h hs)

set_option maxHeartbeats 4000000 in
set_option maxRecDepth 100000 in
theorem takeBun_any (b : Bun) (rest : Bytes) (p : Nat) (w : World) (hb : chkBun b = true) (h : Rdr w p (eBun b ++ rest)) (hs : rest.length ≤ 999000000) :
    Calls Tryz.prog 42 #[.pointer (some ⟨p, 0, none⟩)] w (RetR (bunV b) p rest w) := by
  obtain ⟨hr, hi⟩ := chkBun_right hb
  have h0 : Rdr (w.alloc (.cells (entF 0 fun _ => 0) 75)) p (eID b.id ++ (eParts b ++ rest)) := by
    have := Blk.alloc h (.cells (entF 0 fun _ => 0) 75)
    simp only [eBun, List.append_assoc] at this
    exact this
  have hp := h.lt
  have b1 : (eParts b ++ rest).length ≤ 1000000000 := by have := eParts_len hr; rw [List.length_append]; generalize (eParts b).length = q at this ⊢; omega
  have H0 := Lib.hid h0
  have ok := okArg_t
  have C1 := Lib.hid (fun w => check_any b w)
  rw [hb] at C1
  have T1 := Lib.hid (fun w (h : Rdr w p (eParts b ++ rest)) => take_any b rest p w hr h (by omega))
  have T0 := Lib.hid (takeID_any b.id (eParts b ++ rest) p _ hi h0 b1)
  clear h h0 hb b1
  go_enter Tryz.func42, Tryz.ntmps42
  go_wp2_with (first
    | (go_at_call 44; refine T0.out.mono ?_; rintro e w1 ⟨rfl, hr1, hg1⟩; have H1 := Lib.hid (Blk.alloc hr1 (.cells #[i64 b.id.shard, i64 b.id.index, i64 b.id.gen] 73)); clear hr1)
    | (go_at_call 77; refine (T1.out _ H1.out).mono ?_; rintro e w2 ⟨rfl, hr2, hg2⟩; have k2 := cells_keep hg2 (b := w1.heap.size) (by simp) (by have := hg1.size; simp at this ⊢; omega); have hs2 : w1.heap.size < w2.heap.size := (by have := hg2.size; simp at this; omega)))
  have hs1 : w.heap.size < w1.heap.size := by have := hg1.size; simp at this; omega
  have hB : Blk w2 w.heap.size 75 (entF 0 fun _ => 0) := (((Blk.new w _ _).chg hg1 (by simp; omega)).alloc _).chg hg2 (by simp; omega)
  have hgW : Chg [p] w w2 := ((((Chg.refl [p] w).alloc _).trans hg1).alloc _).trans hg2
  have hRl := hr2
  clear hg1 hg2 hr2 H0 H1 T0 T1 k2
  go_region_with (first
    | (go_at_call 63; refine (C1.out _).mono ?_; rintro e w4 ⟨rfl, hg4⟩; have k4 := cells_keep hg4 (b := w2.heap.size) (by simp) (by simp))
    | (go_at_call 79; refine (soundBun_any b p rest _ (Blk.chg (Blk.drew (Blk.alloc hRl _)) hg4 (by simp))).mono ?_; rintro e w5 ⟨rfl, hg5⟩; have hB5 := ((hB.alloc (.cells #[i64 b.id.shard, i64 b.id.index, i64 b.id.gen, i64 b.mask, i64 b.x, i64 b.y, i64 b.vx, i64 b.vy, i64 b.hp, i64 b.power, i64 b.left] 75)).drew.chg hg4 (by simp)).chg hg5 (by simp); have f5 := fun j => hB5.frozen j; have q0 : w5.cell? ⟨w.heap.size, 0, none⟩ = some (i64 0) := hB5.cell 0; have q1 : w5.cell? ⟨w.heap.size, 1, none⟩ = some (i64 0) := hB5.cell 1; have q2 : w5.cell? ⟨w.heap.size, 2, none⟩ = some (i64 0) := hB5.cell 2; have q3 : w5.cell? ⟨w.heap.size, 3, none⟩ = some (i64 0) := hB5.cell 3; have q4 : w5.cell? ⟨w.heap.size, 4, none⟩ = some (i64 0) := hB5.cell 4; have q5 : w5.cell? ⟨w.heap.size, 5, none⟩ = some (i64 0) := hB5.cell 5; have q6 : w5.cell? ⟨w.heap.size, 6, none⟩ = some (i64 0) := hB5.cell 6; have q7 : w5.cell? ⟨w.heap.size, 7, none⟩ = some (i64 0) := hB5.cell 7; have q8 : w5.cell? ⟨w.heap.size, 8, none⟩ = some (i64 0) := hB5.cell 8; have q9 : w5.cell? ⟨w.heap.size, 9, none⟩ = some (i64 0) := hB5.cell 9; have q10 : w5.cell? ⟨w.heap.size, 10, none⟩ = some (i64 0) := hB5.cell 10))
  all_goals (
    have hR5 : Rdr w5 p rest := (Blk.chg (Blk.drew (Blk.alloc hRl (.cells #[i64 b.id.shard, i64 b.id.index, i64 b.id.gen, i64 b.mask, i64 b.x, i64 b.y, i64 b.vx, i64 b.vy, i64 b.hp, i64 b.power, i64 b.left] 75))) hg4 (by simp)).chg hg5 (by simp)
    have hC5 : Chg [p] w w5 := ((hgW.alloc (.cells #[i64 b.id.shard, i64 b.id.index, i64 b.id.gen, i64 b.mask, i64 b.x, i64 b.y, i64 b.vx, i64 b.vy, i64 b.hp, i64 b.power, i64 b.left] 75)).drew.then_ hg4 (by simp)).then_ hg5 (by simp)
    have hpne : p ≠ w.heap.size := by omega
    have hBf := setBun_blk b hB5
    have hRf2 : Rdr (setBun w5 w.heap.size b) p rest := setBun_far b hR5 hpne
    have hCf2 : Chg [p] w (setBun w5 w.heap.size b) := setBun_chg b hC5 (.inr (Nat.le_refl _))
    clear k4 hgW hB hRl hg4 hg5 hB5 hC5 hR5
    go_wp2_with fail
    (try simp only [Exit.inBlock, Exit.then])
    change bodyPost _ _ _ _ _ (setBun w5 w.heap.size b)
    clear q0 q1 q2 q3 q4 q5 q6 q7 q8 q9 q10
    generalize setBun w5 w.heap.size b = WF at hBf hRf2 hCf2 ⊢
    refine bodyPost_ret (results_cell_row rfl _ _ w.heap.size 75 #[i64 b.id.shard, i64 b.id.index, i64 b.id.gen, i64 b.mask, i64 b.x, i64 b.y, i64 b.vx, i64 b.vy, i64 b.hp, i64 b.power, i64 b.left] (0, 0) _ rfl hBf Tryz.underlying75 rfl (by kernel_rfl)) rfl ?_
    exact ⟨rfl, hRf2, hCf2⟩)
end Go.Proofs.YtofnehgjkdcmnaaGreatDoor

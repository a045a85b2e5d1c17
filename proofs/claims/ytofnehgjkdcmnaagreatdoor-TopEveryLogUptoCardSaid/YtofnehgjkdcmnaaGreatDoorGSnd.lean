/- The walks of codec.sound. (made by a small program) -/
import Derived.Test.YtofnehgjkdcmnaaGreatDoorGRdr
import Derived.Test.YtofnehgjkdcmnaaGreatDoorGCmd
import Derived.BigGuardPart
import Derived.Handy
namespace Go.Proofs.YtofnehgjkdcmnaaGreatDoor
open Go.RowKit Hg

set_option maxHeartbeats 1000000 in
set_option maxRecDepth 100000 in
theorem soundID_any (x : ID) (p : Nat) (l : Bytes) (w : World) (h : Rdr w p l) :
    Calls Tryz.prog 80 #[.pointer (some ⟨p, 0, none⟩), idV x, .int .i64 0] w (Ret (idV x) w) := by
  have hp := h.lt
  have h1 : Rdr ((w.alloc (.cells (#[i64 x.shard, i64 x.index, i64 x.gen]) 73)).alloc (.cells (#[i64 0, i64 0, i64 0]) 73)) p l := Blk.alloc (Blk.alloc h _) _
  have H := Lib.hid h1
  clear h h1
  go_enter Tryz.func80, Tryz.ntmps80
  go_wp2_with (go_at_call 76; refine (bad_any l p _ H.out).mono ?_; rintro e w1 ⟨rfl, rfl⟩)
  go_returns
  exact ⟨rfl, by repeat (first | exact Chg.refl _ _ | apply Chg.alloc)⟩

set_option maxHeartbeats 1000000 in
set_option maxRecDepth 100000 in
theorem soundBun_any (x : Bun) (p : Nat) (l : Bytes) (w : World) (h : Rdr w p l) :
    Calls Tryz.prog 79 #[.pointer (some ⟨p, 0, none⟩), bunV x, .int .i64 0] w (Ret (bunV x) w) := by
  have hp := h.lt
  have h1 : Rdr ((w.alloc (.cells (#[i64 x.id.shard, i64 x.id.index, i64 x.id.gen, i64 x.mask, i64 x.x, i64 x.y, i64 x.vx, i64 x.vy, i64 x.hp, i64 x.power, i64 x.left]) 75)).alloc (.cells (#[i64 0, i64 0, i64 0, i64 0, i64 0, i64 0, i64 0, i64 0, i64 0, i64 0, i64 0]) 75)) p l := Blk.alloc (Blk.alloc h _) _
  have H := Lib.hid h1
  clear h h1
  go_enter Tryz.func79, Tryz.ntmps79
  go_wp2_with (go_at_call 76; refine (bad_any l p _ H.out).mono ?_; rintro e w1 ⟨rfl, rfl⟩)
  go_returns
  exact ⟨rfl, by repeat (first | exact Chg.refl _ _ | apply Chg.alloc)⟩

set_option maxHeartbeats 1000000 in
set_option maxRecDepth 100000 in
theorem soundCmd_any (x : Cmd) (p : Nat) (l : Bytes) (w : World) (h : Rdr w p l) :
    Calls Tryz.prog 78 #[.pointer (some ⟨p, 0, none⟩), cmdV x, .int .i64 0] w (Ret (cmdV x) w) := by
  have hp := h.lt
  have h1 : Rdr ((w.alloc (.cells (#[i64 x.kind, i64 x.id.shard, i64 x.id.index, i64 x.id.gen, i64 x.b.id.shard, i64 x.b.id.index, i64 x.b.id.gen, i64 x.b.mask, i64 x.b.x, i64 x.b.y, i64 x.b.vx, i64 x.b.vy, i64 x.b.hp, i64 x.b.power, i64 x.b.left, i64 x.mask]) 77)).alloc (.cells (#[i64 0, i64 0, i64 0, i64 0, i64 0, i64 0, i64 0, i64 0, i64 0, i64 0, i64 0, i64 0, i64 0, i64 0, i64 0, i64 0]) 77)) p l := Blk.alloc (Blk.alloc h _) _
  have H := Lib.hid h1
  clear h h1
  go_enter Tryz.func78, Tryz.ntmps78
  go_wp2_with (go_at_call 76; refine (bad_any l p _ H.out).mono ?_; rintro e w1 ⟨rfl, rfl⟩)
  go_returns
  exact ⟨rfl, by repeat (first | exact Chg.refl _ _ | apply Chg.alloc)⟩
end Go.Proofs.YtofnehgjkdcmnaaGreatDoor

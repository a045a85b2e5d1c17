/- Storing a name, an entity or a command whole. (made by a small program) -/
import Derived.Test.YtofnehgjkdcmnaaGreatDoorGChk
import Derived.Test.YtofnehgjkdcmnaaGreatDoorGEq
namespace Go.Proofs.YtofnehgjkdcmnaaGreatDoor
open Go.RowKit Hg

/-- the world behind a store of it at block R -/
def setID (w : World) (R : Nat) (i : ID) : World := (((w.setCell ⟨R, 0, none⟩ (i64 i.shard)).setCell ⟨R, 1, none⟩ (i64 i.index)).setCell ⟨R, 2, none⟩ (i64 i.gen))
theorem setID_blk {w : World} {R : Nat} {t : TypeId} {u0 u1 u2 : Value} (i : ID) (h : Blk w R t #[u0, u1, u2]) : Blk (setID w R i) R t #[i64 i.shard, i64 i.index, i64 i.gen] := by
  have h : Blk _ R t #[i64 i.shard, u1, u2] := h.set_ 0 (i64 i.shard)
  have h : Blk _ R t #[i64 i.shard, i64 i.index, u2] := h.set_ 1 (i64 i.index)
  have h : Blk _ R t #[i64 i.shard, i64 i.index, i64 i.gen] := h.set_ 2 (i64 i.gen)
  exact h
theorem setID_far {w : World} {R g : Nat} {t : TypeId} {cs : Array Value} (i : ID) (h : Blk w g t cs) (hg : g ≠ R) : Blk (setID w R i) g t cs := by
  unfold setID
  repeat (refine Blk.far ?_ hg _)
  exact h
theorem setID_chg {S : List Nat} {w0 w : World} {R : Nat} (i : ID) (h : Chg S w0 w) (hR : R ∈ S ∨ w0.heap.size ≤ R) : Chg S w0 (setID w R i) := by
  unfold setID
  repeat (refine Chg.setCell ?_ hR _)
  exact h
theorem setID_heap {w : World} {R D : Nat} (i : ID) (hD : D ≠ R) : (setID w R i).heap[D]? = w.heap[D]? := by
  unfold setID
  repeat (refine (Below.heap_setCell _ _ _ _ hD).trans ?_)
  rfl
theorem setID_size (w : World) (R : Nat) (i : ID) : (setID w R i).heap.size = w.heap.size := by
  simp [setID, World.setCell]

/-- the world behind a store of it at block R -/
def setBun (w : World) (R : Nat) (b : Bun) : World := (((((((((((w.setCell ⟨R, 0, none⟩ (i64 b.id.shard)).setCell ⟨R, 1, none⟩ (i64 b.id.index)).setCell ⟨R, 2, none⟩ (i64 b.id.gen)).setCell ⟨R, 3, none⟩ (i64 b.mask)).setCell ⟨R, 4, none⟩ (i64 b.x)).setCell ⟨R, 5, none⟩ (i64 b.y)).setCell ⟨R, 6, none⟩ (i64 b.vx)).setCell ⟨R, 7, none⟩ (i64 b.vy)).setCell ⟨R, 8, none⟩ (i64 b.hp)).setCell ⟨R, 9, none⟩ (i64 b.power)).setCell ⟨R, 10, none⟩ (i64 b.left))
theorem setBun_blk {w : World} {R : Nat} {t : TypeId} {u0 u1 u2 u3 u4 u5 u6 u7 u8 u9 u10 : Value} (b : Bun) (h : Blk w R t #[u0, u1, u2, u3, u4, u5, u6, u7, u8, u9, u10]) : Blk (setBun w R b) R t #[i64 b.id.shard, i64 b.id.index, i64 b.id.gen, i64 b.mask, i64 b.x, i64 b.y, i64 b.vx, i64 b.vy, i64 b.hp, i64 b.power, i64 b.left] := by
  have h : Blk _ R t #[i64 b.id.shard, u1, u2, u3, u4, u5, u6, u7, u8, u9, u10] := h.set_ 0 (i64 b.id.shard)
  have h : Blk _ R t #[i64 b.id.shard, i64 b.id.index, u2, u3, u4, u5, u6, u7, u8, u9, u10] := h.set_ 1 (i64 b.id.index)
  have h : Blk _ R t #[i64 b.id.shard, i64 b.id.index, i64 b.id.gen, u3, u4, u5, u6, u7, u8, u9, u10] := h.set_ 2 (i64 b.id.gen)
  have h : Blk _ R t #[i64 b.id.shard, i64 b.id.index, i64 b.id.gen, i64 b.mask, u4, u5, u6, u7, u8, u9, u10] := h.set_ 3 (i64 b.mask)
  have h : Blk _ R t #[i64 b.id.shard, i64 b.id.index, i64 b.id.gen, i64 b.mask, i64 b.x, u5, u6, u7, u8, u9, u10] := h.set_ 4 (i64 b.x)
  have h : Blk _ R t #[i64 b.id.shard, i64 b.id.index, i64 b.id.gen, i64 b.mask, i64 b.x, i64 b.y, u6, u7, u8, u9, u10] := h.set_ 5 (i64 b.y)
  have h : Blk _ R t #[i64 b.id.shard, i64 b.id.index, i64 b.id.gen, i64 b.mask, i64 b.x, i64 b.y, i64 b.vx, u7, u8, u9, u10] := h.set_ 6 (i64 b.vx)
  have h : Blk _ R t #[i64 b.id.shard, i64 b.id.index, i64 b.id.gen, i64 b.mask, i64 b.x, i64 b.y, i64 b.vx, i64 b.vy, u8, u9, u10] := h.set_ 7 (i64 b.vy)
  have h : Blk _ R t #[i64 b.id.shard, i64 b.id.index, i64 b.id.gen, i64 b.mask, i64 b.x, i64 b.y, i64 b.vx, i64 b.vy, i64 b.hp, u9, u10] := h.set_ 8 (i64 b.hp)
  have h : Blk _ R t #[i64 b.id.shard, i64 b.id.index, i64 b.id.gen, i64 b.mask, i64 b.x, i64 b.y, i64 b.vx, i64 b.vy, i64 b.hp, i64 b.power, u10] := h.set_ 9 (i64 b.power)
  have h : Blk _ R t #[i64 b.id.shard, i64 b.id.index, i64 b.id.gen, i64 b.mask, i64 b.x, i64 b.y, i64 b.vx, i64 b.vy, i64 b.hp, i64 b.power, i64 b.left] := h.set_ 10 (i64 b.left)
  exact h
theorem setBun_far {w : World} {R g : Nat} {t : TypeId} {cs : Array Value} (b : Bun) (h : Blk w g t cs) (hg : g ≠ R) : Blk (setBun w R b) g t cs := by
  unfold setBun
  repeat (refine Blk.far ?_ hg _)
  exact h
theorem setBun_chg {S : List Nat} {w0 w : World} {R : Nat} (b : Bun) (h : Chg S w0 w) (hR : R ∈ S ∨ w0.heap.size ≤ R) : Chg S w0 (setBun w R b) := by
  unfold setBun
  repeat (refine Chg.setCell ?_ hR _)
  exact h
theorem setBun_heap {w : World} {R D : Nat} (b : Bun) (hD : D ≠ R) : (setBun w R b).heap[D]? = w.heap[D]? := by
  unfold setBun
  repeat (refine (Below.heap_setCell _ _ _ _ hD).trans ?_)
  rfl
theorem setBun_size (w : World) (R : Nat) (b : Bun) : (setBun w R b).heap.size = w.heap.size := by
  simp [setBun, World.setCell]

/-- the world behind a store of it at block R -/
def setCmd (w : World) (R : Nat) (c : Cmd) : World := ((((((((((((((((w.setCell ⟨R, 0, none⟩ (i64 c.kind)).setCell ⟨R, 1, none⟩ (i64 c.id.shard)).setCell ⟨R, 2, none⟩ (i64 c.id.index)).setCell ⟨R, 3, none⟩ (i64 c.id.gen)).setCell ⟨R, 4, none⟩ (i64 c.b.id.shard)).setCell ⟨R, 5, none⟩ (i64 c.b.id.index)).setCell ⟨R, 6, none⟩ (i64 c.b.id.gen)).setCell ⟨R, 7, none⟩ (i64 c.b.mask)).setCell ⟨R, 8, none⟩ (i64 c.b.x)).setCell ⟨R, 9, none⟩ (i64 c.b.y)).setCell ⟨R, 10, none⟩ (i64 c.b.vx)).setCell ⟨R, 11, none⟩ (i64 c.b.vy)).setCell ⟨R, 12, none⟩ (i64 c.b.hp)).setCell ⟨R, 13, none⟩ (i64 c.b.power)).setCell ⟨R, 14, none⟩ (i64 c.b.left)).setCell ⟨R, 15, none⟩ (i64 c.mask))
theorem setCmd_blk {w : World} {R : Nat} {t : TypeId} {u0 u1 u2 u3 u4 u5 u6 u7 u8 u9 u10 u11 u12 u13 u14 u15 : Value} (c : Cmd) (h : Blk w R t #[u0, u1, u2, u3, u4, u5, u6, u7, u8, u9, u10, u11, u12, u13, u14, u15]) : Blk (setCmd w R c) R t #[i64 c.kind, i64 c.id.shard, i64 c.id.index, i64 c.id.gen, i64 c.b.id.shard, i64 c.b.id.index, i64 c.b.id.gen, i64 c.b.mask, i64 c.b.x, i64 c.b.y, i64 c.b.vx, i64 c.b.vy, i64 c.b.hp, i64 c.b.power, i64 c.b.left, i64 c.mask] := by
  have h : Blk _ R t #[i64 c.kind, u1, u2, u3, u4, u5, u6, u7, u8, u9, u10, u11, u12, u13, u14, u15] := h.set_ 0 (i64 c.kind)
  have h : Blk _ R t #[i64 c.kind, i64 c.id.shard, u2, u3, u4, u5, u6, u7, u8, u9, u10, u11, u12, u13, u14, u15] := h.set_ 1 (i64 c.id.shard)
  have h : Blk _ R t #[i64 c.kind, i64 c.id.shard, i64 c.id.index, u3, u4, u5, u6, u7, u8, u9, u10, u11, u12, u13, u14, u15] := h.set_ 2 (i64 c.id.index)
  have h : Blk _ R t #[i64 c.kind, i64 c.id.shard, i64 c.id.index, i64 c.id.gen, u4, u5, u6, u7, u8, u9, u10, u11, u12, u13, u14, u15] := h.set_ 3 (i64 c.id.gen)
  have h : Blk _ R t #[i64 c.kind, i64 c.id.shard, i64 c.id.index, i64 c.id.gen, i64 c.b.id.shard, u5, u6, u7, u8, u9, u10, u11, u12, u13, u14, u15] := h.set_ 4 (i64 c.b.id.shard)
  have h : Blk _ R t #[i64 c.kind, i64 c.id.shard, i64 c.id.index, i64 c.id.gen, i64 c.b.id.shard, i64 c.b.id.index, u6, u7, u8, u9, u10, u11, u12, u13, u14, u15] := h.set_ 5 (i64 c.b.id.index)
  have h : Blk _ R t #[i64 c.kind, i64 c.id.shard, i64 c.id.index, i64 c.id.gen, i64 c.b.id.shard, i64 c.b.id.index, i64 c.b.id.gen, u7, u8, u9, u10, u11, u12, u13, u14, u15] := h.set_ 6 (i64 c.b.id.gen)
  have h : Blk _ R t #[i64 c.kind, i64 c.id.shard, i64 c.id.index, i64 c.id.gen, i64 c.b.id.shard, i64 c.b.id.index, i64 c.b.id.gen, i64 c.b.mask, u8, u9, u10, u11, u12, u13, u14, u15] := h.set_ 7 (i64 c.b.mask)
  have h : Blk _ R t #[i64 c.kind, i64 c.id.shard, i64 c.id.index, i64 c.id.gen, i64 c.b.id.shard, i64 c.b.id.index, i64 c.b.id.gen, i64 c.b.mask, i64 c.b.x, u9, u10, u11, u12, u13, u14, u15] := h.set_ 8 (i64 c.b.x)
  have h : Blk _ R t #[i64 c.kind, i64 c.id.shard, i64 c.id.index, i64 c.id.gen, i64 c.b.id.shard, i64 c.b.id.index, i64 c.b.id.gen, i64 c.b.mask, i64 c.b.x, i64 c.b.y, u10, u11, u12, u13, u14, u15] := h.set_ 9 (i64 c.b.y)
  have h : Blk _ R t #[i64 c.kind, i64 c.id.shard, i64 c.id.index, i64 c.id.gen, i64 c.b.id.shard, i64 c.b.id.index, i64 c.b.id.gen, i64 c.b.mask, i64 c.b.x, i64 c.b.y, i64 c.b.vx, u11, u12, u13, u14, u15] := h.set_ 10 (i64 c.b.vx)
  have h : Blk _ R t #[i64 c.kind, i64 c.id.shard, i64 c.id.index, i64 c.id.gen, i64 c.b.id.shard, i64 c.b.id.index, i64 c.b.id.gen, i64 c.b.mask, i64 c.b.x, i64 c.b.y, i64 c.b.vx, i64 c.b.vy, u12, u13, u14, u15] := h.set_ 11 (i64 c.b.vy)
  have h : Blk _ R t #[i64 c.kind, i64 c.id.shard, i64 c.id.index, i64 c.id.gen, i64 c.b.id.shard, i64 c.b.id.index, i64 c.b.id.gen, i64 c.b.mask, i64 c.b.x, i64 c.b.y, i64 c.b.vx, i64 c.b.vy, i64 c.b.hp, u13, u14, u15] := h.set_ 12 (i64 c.b.hp)
  have h : Blk _ R t #[i64 c.kind, i64 c.id.shard, i64 c.id.index, i64 c.id.gen, i64 c.b.id.shard, i64 c.b.id.index, i64 c.b.id.gen, i64 c.b.mask, i64 c.b.x, i64 c.b.y, i64 c.b.vx, i64 c.b.vy, i64 c.b.hp, i64 c.b.power, u14, u15] := h.set_ 13 (i64 c.b.power)
  have h : Blk _ R t #[i64 c.kind, i64 c.id.shard, i64 c.id.index, i64 c.id.gen, i64 c.b.id.shard, i64 c.b.id.index, i64 c.b.id.gen, i64 c.b.mask, i64 c.b.x, i64 c.b.y, i64 c.b.vx, i64 c.b.vy, i64 c.b.hp, i64 c.b.power, i64 c.b.left, u15] := h.set_ 14 (i64 c.b.left)
  have h : Blk _ R t #[i64 c.kind, i64 c.id.shard, i64 c.id.index, i64 c.id.gen, i64 c.b.id.shard, i64 c.b.id.index, i64 c.b.id.gen, i64 c.b.mask, i64 c.b.x, i64 c.b.y, i64 c.b.vx, i64 c.b.vy, i64 c.b.hp, i64 c.b.power, i64 c.b.left, i64 c.mask] := h.set_ 15 (i64 c.mask)
  exact h
theorem setCmd_far {w : World} {R g : Nat} {t : TypeId} {cs : Array Value} (c : Cmd) (h : Blk w g t cs) (hg : g ≠ R) : Blk (setCmd w R c) g t cs := by
  unfold setCmd
  repeat (refine Blk.far ?_ hg _)
  exact h
theorem setCmd_chg {S : List Nat} {w0 w : World} {R : Nat} (c : Cmd) (h : Chg S w0 w) (hR : R ∈ S ∨ w0.heap.size ≤ R) : Chg S w0 (setCmd w R c) := by
  unfold setCmd
  repeat (refine Chg.setCell ?_ hR _)
  exact h
theorem setCmd_heap {w : World} {R D : Nat} (c : Cmd) (hD : D ≠ R) : (setCmd w R c).heap[D]? = w.heap[D]? := by
  unfold setCmd
  repeat (refine (Below.heap_setCell _ _ _ _ hD).trans ?_)
  rfl
theorem setCmd_size (w : World) (R : Nat) (c : Cmd) : (setCmd w R c).heap.size = w.heap.size := by
  simp [setCmd, World.setCell]
end Go.Proofs.YtofnehgjkdcmnaaGreatDoor

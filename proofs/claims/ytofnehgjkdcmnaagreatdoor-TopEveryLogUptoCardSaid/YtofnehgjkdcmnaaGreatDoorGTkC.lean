/- The walk of codec.TakeCmd. (made by a small program) -/
import Derived.Test.YtofnehgjkdcmnaaGreatDoorGTkB
namespace Go.Proofs.YtofnehgjkdcmnaaGreatDoor
open Go.RowKit Hg

def setB4 (w : World) (R : Nat) (b : Bun) : World := (((((((((((w.setCell ⟨R, 4, none⟩ (i64 b.id.shard)).setCell ⟨R, 5, none⟩ (i64 b.id.index)).setCell ⟨R, 6, none⟩ (i64 b.id.gen)).setCell ⟨R, 7, none⟩ (i64 b.mask)).setCell ⟨R, 8, none⟩ (i64 b.x)).setCell ⟨R, 9, none⟩ (i64 b.y)).setCell ⟨R, 10, none⟩ (i64 b.vx)).setCell ⟨R, 11, none⟩ (i64 b.vy)).setCell ⟨R, 12, none⟩ (i64 b.hp)).setCell ⟨R, 13, none⟩ (i64 b.power)).setCell ⟨R, 14, none⟩ (i64 b.left))
theorem setB4_blk {w : World} {R : Nat} {t : TypeId} {u0 u1 u2 u3 u4 u5 u6 u7 u8 u9 u10 u11 u12 u13 u14 u15 : Value} (b : Bun) (h : Blk w R t #[u0, u1, u2, u3, u4, u5, u6, u7, u8, u9, u10, u11, u12, u13, u14, u15]) : Blk (setB4 w R b) R t #[u0, u1, u2, u3, i64 b.id.shard, i64 b.id.index, i64 b.id.gen, i64 b.mask, i64 b.x, i64 b.y, i64 b.vx, i64 b.vy, i64 b.hp, i64 b.power, i64 b.left, u15] := by
  have h : Blk _ R t #[u0, u1, u2, u3, i64 b.id.shard, u5, u6, u7, u8, u9, u10, u11, u12, u13, u14, u15] := h.set_ 4 (i64 b.id.shard)
  have h : Blk _ R t #[u0, u1, u2, u3, i64 b.id.shard, i64 b.id.index, u6, u7, u8, u9, u10, u11, u12, u13, u14, u15] := h.set_ 5 (i64 b.id.index)
  have h : Blk _ R t #[u0, u1, u2, u3, i64 b.id.shard, i64 b.id.index, i64 b.id.gen, u7, u8, u9, u10, u11, u12, u13, u14, u15] := h.set_ 6 (i64 b.id.gen)
  have h : Blk _ R t #[u0, u1, u2, u3, i64 b.id.shard, i64 b.id.index, i64 b.id.gen, i64 b.mask, u8, u9, u10, u11, u12, u13, u14, u15] := h.set_ 7 (i64 b.mask)
  have h : Blk _ R t #[u0, u1, u2, u3, i64 b.id.shard, i64 b.id.index, i64 b.id.gen, i64 b.mask, i64 b.x, u9, u10, u11, u12, u13, u14, u15] := h.set_ 8 (i64 b.x)
  have h : Blk _ R t #[u0, u1, u2, u3, i64 b.id.shard, i64 b.id.index, i64 b.id.gen, i64 b.mask, i64 b.x, i64 b.y, u10, u11, u12, u13, u14, u15] := h.set_ 9 (i64 b.y)
  have h : Blk _ R t #[u0, u1, u2, u3, i64 b.id.shard, i64 b.id.index, i64 b.id.gen, i64 b.mask, i64 b.x, i64 b.y, i64 b.vx, u11, u12, u13, u14, u15] := h.set_ 10 (i64 b.vx)
  have h : Blk _ R t #[u0, u1, u2, u3, i64 b.id.shard, i64 b.id.index, i64 b.id.gen, i64 b.mask, i64 b.x, i64 b.y, i64 b.vx, i64 b.vy, u12, u13, u14, u15] := h.set_ 11 (i64 b.vy)
  have h : Blk _ R t #[u0, u1, u2, u3, i64 b.id.shard, i64 b.id.index, i64 b.id.gen, i64 b.mask, i64 b.x, i64 b.y, i64 b.vx, i64 b.vy, i64 b.hp, u13, u14, u15] := h.set_ 12 (i64 b.hp)
  have h : Blk _ R t #[u0, u1, u2, u3, i64 b.id.shard, i64 b.id.index, i64 b.id.gen, i64 b.mask, i64 b.x, i64 b.y, i64 b.vx, i64 b.vy, i64 b.hp, i64 b.power, u14, u15] := h.set_ 13 (i64 b.power)
  have h : Blk _ R t #[u0, u1, u2, u3, i64 b.id.shard, i64 b.id.index, i64 b.id.gen, i64 b.mask, i64 b.x, i64 b.y, i64 b.vx, i64 b.vy, i64 b.hp, i64 b.power, i64 b.left, u15] := h.set_ 14 (i64 b.left)
  exact h
theorem setB4_far {w : World} {R g : Nat} {t : TypeId} {cs : Array Value} (b : Bun) (h : Blk w g t cs) (hg : g ≠ R) : Blk (setB4 w R b) g t cs := by
  unfold setB4
  repeat (refine Blk.far ?_ hg _)
  exact h
theorem setB4_chg {S : List Nat} {w0 w : World} {R : Nat} (b : Bun) (h : Chg S w0 w) (hR : R ∈ S ∨ w0.heap.size ≤ R) : Chg S w0 (setB4 w R b) := by
  unfold setB4
  repeat (refine Chg.setCell ?_ hR _)
  exact h
theorem setB4_size (w : World) (R : Nat) (b : Bun) : (setB4 w R b).heap.size = w.heap.size := by
  simp [setB4, World.setCell]

def setI1 (w : World) (R : Nat) (i : ID) : World := (((w.setCell ⟨R, 1, none⟩ (i64 i.shard)).setCell ⟨R, 2, none⟩ (i64 i.index)).setCell ⟨R, 3, none⟩ (i64 i.gen))
theorem setI1_blk {w : World} {R : Nat} {t : TypeId} {u0 u1 u2 u3 u4 u5 u6 u7 u8 u9 u10 u11 u12 u13 u14 u15 : Value} (i : ID) (h : Blk w R t #[u0, u1, u2, u3, u4, u5, u6, u7, u8, u9, u10, u11, u12, u13, u14, u15]) : Blk (setI1 w R i) R t #[u0, i64 i.shard, i64 i.index, i64 i.gen, u4, u5, u6, u7, u8, u9, u10, u11, u12, u13, u14, u15] := by
  have h : Blk _ R t #[u0, i64 i.shard, u2, u3, u4, u5, u6, u7, u8, u9, u10, u11, u12, u13, u14, u15] := h.set_ 1 (i64 i.shard)
  have h : Blk _ R t #[u0, i64 i.shard, i64 i.index, u3, u4, u5, u6, u7, u8, u9, u10, u11, u12, u13, u14, u15] := h.set_ 2 (i64 i.index)
  have h : Blk _ R t #[u0, i64 i.shard, i64 i.index, i64 i.gen, u4, u5, u6, u7, u8, u9, u10, u11, u12, u13, u14, u15] := h.set_ 3 (i64 i.gen)
  exact h
theorem setI1_far {w : World} {R g : Nat} {t : TypeId} {cs : Array Value} (i : ID) (h : Blk w g t cs) (hg : g ≠ R) : Blk (setI1 w R i) g t cs := by
  unfold setI1
  repeat (refine Blk.far ?_ hg _)
  exact h
theorem setI1_chg {S : List Nat} {w0 w : World} {R : Nat} (i : ID) (h : Chg S w0 w) (hR : R ∈ S ∨ w0.heap.size ≤ R) : Chg S w0 (setI1 w R i) := by
  unfold setI1
  repeat (refine Chg.setCell ?_ hR _)
  exact h
theorem setI1_size (w : World) (R : Nat) (i : ID) : (setI1 w R i).heap.size = w.heap.size := by
  simp [setI1, World.setCell]

set_option maxHeartbeats 8000000 in
set_option maxRecDepth 100000 in
theorem takeCmd_1 (c : Cmd) (rest : Bytes) (p : Nat) (w : World) (hI : I64 c.kind) (hk : (c.kind == 1) = true) (hb : chkBun c.b = true) (hc : chkCmd c = true) (h : Rdr w p (oct c.kind ++ (eBun c.b ++ rest))) (hs : rest.length ≤ 998000000) :
    Calls Tryz.prog 40 #[.pointer (some ⟨p, 0, none⟩)] w (RetR (cmdV c) p rest w) := by
  have hp := h.lt
  have h0 : Rdr (w.alloc (.cells #[i64 0, i64 0, i64 0, i64 0, i64 0, i64 0, i64 0, i64 0, i64 0, i64 0, i64 0, i64 0, i64 0, i64 0, i64 0, i64 0] 77)) p (oct c.kind ++ (eBun c.b ++ rest)) := Blk.alloc h _
  have ok := okArg_t
  have C1 := Lib.hid (fun w => checkCmd_any c w)
  rw [hc] at C1
  have hz : (#[i64 c.kind, i64 c.id.shard, i64 c.id.index, i64 c.id.gen, i64 c.b.id.shard, i64 c.b.id.index, i64 c.b.id.gen, i64 c.b.mask, i64 c.b.x, i64 c.b.y, i64 c.b.vx, i64 c.b.vy, i64 c.b.hp, i64 c.b.power, i64 c.b.left, i64 c.mask] : Array Value) = #[i64 c.kind, i64 0, i64 0, i64 0, i64 c.b.id.shard, i64 c.b.id.index, i64 c.b.id.gen, i64 c.b.mask, i64 c.b.x, i64 c.b.y, i64 c.b.vx, i64 c.b.vy, i64 c.b.hp, i64 c.b.power, i64 c.b.left, i64 0] := by
    have e : c.kind = 1 := by simpa using hk
    have := hc
    simp only [chkCmd, e, if_true, Bool.and_eq_true, beq_iff_eq] at this
    rw [this.1.1, this.1.2]; rfl
  have b0 : (eBun c.b ++ rest).length ≤ 1099511627776 := by have := eBun_len hb; rw [List.length_append]; generalize (eBun c.b).length = q at this ⊢; omega
  have T1 := Lib.hid (fun w (h : Rdr w p (eBun c.b ++ rest)) => takeBun_any c.b rest p w hb h (by omega))
  have T0 := Lib.hid (rInt_any c.kind _ p _ hI h0 b0)
  clear h h0 b0 hc hI
  go_enter Tryz.func40, Tryz.ntmps40
  go_wp2_with (first
    | (go_at_call 38; refine T0.out.mono ?_; rintro e w1 ⟨rfl, hr1, hg1⟩; have hs1 : w.heap.size < w1.heap.size := (by have := hg1.size; simp at this; omega); have H1 := Lib.hid (And.intro (Blk.alloc hr1 (.cells #[i64 c.kind, i64 0, i64 0, i64 0, i64 0, i64 0, i64 0, i64 0, i64 0, i64 0, i64 0, i64 0, i64 0, i64 0, i64 0, i64 0] 77)) (Blk.new w1 77 #[i64 c.kind, i64 0, i64 0, i64 0, i64 0, i64 0, i64 0, i64 0, i64 0, i64 0, i64 0, i64 0, i64 0, i64 0, i64 0, i64 0])); clear hr1)
    | (go_at_call 42; refine (T1.out _ H1.out.1).mono ?_; rintro e w2 ⟨rfl, hr2, hg2⟩; have hBc := H1.out.2.chg hg2 (by simp; omega); have k2 := fun j => hBc.cell j; have f2 := fun j => hBc.frozen j))
  have hB1 : Blk (w1.alloc (.cells #[i64 c.kind, i64 0, i64 0, i64 0, i64 0, i64 0, i64 0, i64 0, i64 0, i64 0, i64 0, i64 0, i64 0, i64 0, i64 0, i64 0] 77)) w.heap.size 77 #[i64 0, i64 0, i64 0, i64 0, i64 0, i64 0, i64 0, i64 0, i64 0, i64 0, i64 0, i64 0, i64 0, i64 0, i64 0, i64 0] := ((Blk.new w _ _).chg hg1 (by simp; omega)).alloc _
  have hgW1 : Chg [p] w (w1.alloc (.cells #[i64 c.kind, i64 0, i64 0, i64 0, i64 0, i64 0, i64 0, i64 0, i64 0, i64 0, i64 0, i64 0, i64 0, i64 0, i64 0, i64 0] 77)) := ((((Chg.refl [p] w).alloc _).trans hg1).alloc _)
  have hpB3 : p ≠ w1.heap.size := by omega
  obtain ⟨B3, hB3d⟩ : ∃ B3, B3 = w1.heap.size := ⟨_, rfl⟩
  rw [← hB3d] at hpB3 ⊢
  have hsB3 : w.heap.size < B3 := by omega
  change Code.wp _ _ _ _ (setB4 w2 B3 c.b)
  rw [← hB3d] at hBc
  have hB3 := setB4_blk c.b hBc
  rw [← hz] at hB3
  have hRlW : Rdr (setB4 w2 B3 c.b) p rest := setB4_far c.b hr2 hpB3
  have hB : Blk (setB4 w2 B3 c.b) w.heap.size 77 #[i64 0, i64 0, i64 0, i64 0, i64 0, i64 0, i64 0, i64 0, i64 0, i64 0, i64 0, i64 0, i64 0, i64 0, i64 0, i64 0] := setB4_far c.b (hB1.chg hg2 (by simp; omega)) (by omega)
  have hgW : Chg [p] w (setB4 w2 B3 c.b) := setB4_chg c.b (hgW1.trans hg2) (.inr (by omega))
  clear k2 f2 hBc hg2 hr2 hB1 hgW1 hg1 H1 T0 T1 hz hB3d
  generalize setB4 w2 B3 c.b = W at hB3 hRlW hB hgW ⊢

  have hRl := hRlW
  have c0 : W.cell? ⟨B3, 0, none⟩ = some (i64 c.kind) := hB3.cell 0
  have c1 : W.cell? ⟨B3, 1, none⟩ = some (i64 c.id.shard) := hB3.cell 1
  have c2 : W.cell? ⟨B3, 2, none⟩ = some (i64 c.id.index) := hB3.cell 2
  have c3 : W.cell? ⟨B3, 3, none⟩ = some (i64 c.id.gen) := hB3.cell 3
  have c4 : W.cell? ⟨B3, 4, none⟩ = some (i64 c.b.id.shard) := hB3.cell 4
  have c5 : W.cell? ⟨B3, 5, none⟩ = some (i64 c.b.id.index) := hB3.cell 5
  have c6 : W.cell? ⟨B3, 6, none⟩ = some (i64 c.b.id.gen) := hB3.cell 6
  have c7 : W.cell? ⟨B3, 7, none⟩ = some (i64 c.b.mask) := hB3.cell 7
  have c8 : W.cell? ⟨B3, 8, none⟩ = some (i64 c.b.x) := hB3.cell 8
  have c9 : W.cell? ⟨B3, 9, none⟩ = some (i64 c.b.y) := hB3.cell 9
  have c10 : W.cell? ⟨B3, 10, none⟩ = some (i64 c.b.vx) := hB3.cell 10
  have c11 : W.cell? ⟨B3, 11, none⟩ = some (i64 c.b.vy) := hB3.cell 11
  have c12 : W.cell? ⟨B3, 12, none⟩ = some (i64 c.b.hp) := hB3.cell 12
  have c13 : W.cell? ⟨B3, 13, none⟩ = some (i64 c.b.power) := hB3.cell 13
  have c14 : W.cell? ⟨B3, 14, none⟩ = some (i64 c.b.left) := hB3.cell 14
  have c15 : W.cell? ⟨B3, 15, none⟩ = some (i64 c.mask) := hB3.cell 15
  have hs3 : B3 < W.heap.size := hB3.lt
  clear hpB3
  have hne3 : ¬ (B3 = w.heap.size) := by omega
  have hne4 : ¬ (w.heap.size = B3) := by omega
  go_region_held3 (fun W => W.cell? ⟨B3, 0, none⟩ = some (i64 c.kind) ∧ W.cell? ⟨B3, 1, none⟩ = some (i64 c.id.shard) ∧ W.cell? ⟨B3, 2, none⟩ = some (i64 c.id.index) ∧ W.cell? ⟨B3, 3, none⟩ = some (i64 c.id.gen) ∧ W.cell? ⟨B3, 4, none⟩ = some (i64 c.b.id.shard) ∧ W.cell? ⟨B3, 5, none⟩ = some (i64 c.b.id.index) ∧ W.cell? ⟨B3, 6, none⟩ = some (i64 c.b.id.gen) ∧ W.cell? ⟨B3, 7, none⟩ = some (i64 c.b.mask) ∧ W.cell? ⟨B3, 8, none⟩ = some (i64 c.b.x) ∧ W.cell? ⟨B3, 9, none⟩ = some (i64 c.b.y) ∧ W.cell? ⟨B3, 10, none⟩ = some (i64 c.b.vx) ∧ W.cell? ⟨B3, 11, none⟩ = some (i64 c.b.vy) ∧ W.cell? ⟨B3, 12, none⟩ = some (i64 c.b.hp) ∧ W.cell? ⟨B3, 13, none⟩ = some (i64 c.b.power) ∧ W.cell? ⟨B3, 14, none⟩ = some (i64 c.b.left) ∧ W.cell? ⟨B3, 15, none⟩ = some (i64 c.mask)) (first | go_keep | (simp only [cells_keep hg4 (b := B3) (by first | assumption | (simp; done)) (by simp)]; go_keep) | (simp only [cells_keep hg5 (b := B3) (by first | assumption | (simp; done)) (by simp)]; go_keep))
    (first
    | (go_at_call 61; refine (C1.out _).mono ?_; rintro e w4 ⟨rfl, hg4⟩; have hs4 : B3 < w4.heap.size := (by have := hg4.size; simp at this; omega))
    | (go_at_call 78; refine (soundCmd_any c p rest _ (Blk.chg (Blk.drew hRl) hg4 (by simp))).mono ?_; rintro e w5 ⟨rfl, hg5⟩; have hs5 : B3 < w5.heap.size := (by have := hg5.size; omega); have hB5 := (hB.drew.chg hg4 (by simp)).chg hg5 (by simp); have f5 := fun j => hB5.frozen j; have q0 : w5.cell? ⟨w.heap.size, 0, none⟩ = some (i64 0) := hB5.cell 0; have q1 : w5.cell? ⟨w.heap.size, 1, none⟩ = some (i64 0) := hB5.cell 1; have q2 : w5.cell? ⟨w.heap.size, 2, none⟩ = some (i64 0) := hB5.cell 2; have q3 : w5.cell? ⟨w.heap.size, 3, none⟩ = some (i64 0) := hB5.cell 3; have q4 : w5.cell? ⟨w.heap.size, 4, none⟩ = some (i64 0) := hB5.cell 4; have q5 : w5.cell? ⟨w.heap.size, 5, none⟩ = some (i64 0) := hB5.cell 5; have q6 : w5.cell? ⟨w.heap.size, 6, none⟩ = some (i64 0) := hB5.cell 6; have q7 : w5.cell? ⟨w.heap.size, 7, none⟩ = some (i64 0) := hB5.cell 7; have q8 : w5.cell? ⟨w.heap.size, 8, none⟩ = some (i64 0) := hB5.cell 8; have q9 : w5.cell? ⟨w.heap.size, 9, none⟩ = some (i64 0) := hB5.cell 9; have q10 : w5.cell? ⟨w.heap.size, 10, none⟩ = some (i64 0) := hB5.cell 10; have q11 : w5.cell? ⟨w.heap.size, 11, none⟩ = some (i64 0) := hB5.cell 11; have q12 : w5.cell? ⟨w.heap.size, 12, none⟩ = some (i64 0) := hB5.cell 12; have q13 : w5.cell? ⟨w.heap.size, 13, none⟩ = some (i64 0) := hB5.cell 13; have q14 : w5.cell? ⟨w.heap.size, 14, none⟩ = some (i64 0) := hB5.cell 14; have q15 : w5.cell? ⟨w.heap.size, 15, none⟩ = some (i64 0) := hB5.cell 15))
  all_goals (
    have hR5 : Rdr w5 p rest := (Blk.chg (Blk.drew hRl) hg4 (by simp)).chg hg5 (by simp)
    have hC5 : Chg [p] w w5 := (hgW.drew.then_ hg4 (by simp)).then_ hg5 (by simp)
    have hpne : p ≠ w.heap.size := by omega
    have hBf := setCmd_blk c hB5
    have hRf2 : Rdr (setCmd w5 w.heap.size c) p rest := setCmd_far c hR5 hpne
    have hCf2 : Chg [p] w (setCmd w5 w.heap.size c) := setCmd_chg c hC5 (.inr (Nat.le_refl _))
    clear hgW hB hRl hg4 hg5 hB5 hC5 hR5 c0 c1 c2 c3 c4 c5 c6 c7 c8 c9 c10 c11 c12 c13 c14 c15
    go_wp2_with fail
    (try simp only [Exit.inBlock, Exit.then])
    change bodyPost _ _ _ _ _ (setCmd w5 w.heap.size c)
    clear q0 q1 q2 q3 q4 q5 q6 q7 q8 q9 q10 q11 q12 q13 q14 q15
    generalize setCmd w5 w.heap.size c = WF at hBf hRf2 hCf2 ⊢
    refine bodyPost_ret (results_cell_row rfl _ _ w.heap.size 77 #[i64 c.kind, i64 c.id.shard, i64 c.id.index, i64 c.id.gen, i64 c.b.id.shard, i64 c.b.id.index, i64 c.b.id.gen, i64 c.b.mask, i64 c.b.x, i64 c.b.y, i64 c.b.vx, i64 c.b.vy, i64 c.b.hp, i64 c.b.power, i64 c.b.left, i64 c.mask] (0, 0) _ rfl hBf Tryz.underlying77 rfl (by kernel_rfl)) rfl ?_
    exact ⟨rfl, hRf2, hCf2⟩)
end Go.Proofs.YtofnehgjkdcmnaaGreatDoor

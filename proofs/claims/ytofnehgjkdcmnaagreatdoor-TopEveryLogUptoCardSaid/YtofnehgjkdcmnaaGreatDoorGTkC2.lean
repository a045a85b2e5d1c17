/- The walk of codec.TakeCmd, kind 2. (made by a small program) -/
import Derived.Test.YtofnehgjkdcmnaaGreatDoorGTkC
import Derived.Test.YtofnehgjkdcmnaaGreatDoorGPutM
namespace Go.Proofs.YtofnehgjkdcmnaaGreatDoor
open Go.RowKit Hg

set_option maxHeartbeats 8000000 in
set_option maxRecDepth 100000 in
theorem takeCmd_2 (c : Cmd) (rest : Bytes) (p : Nat) (w : World) (hI : I64 c.kind) (h1 : (c.kind == 1) = false) (h2 : (c.kind == 2) = true) (hb : chkID c.id = true) (hc : chkCmd c = true) (h : Rdr w p (oct c.kind ++ (eID c.id ++ rest))) (hs : rest.length ≤ 998000000) :
    Calls Tryz.prog 40 #[.pointer (some ⟨p, 0, none⟩)] w (RetR (cmdV c) p rest w) := by
  have hp := h.lt
  have h0 : Rdr (w.alloc (.cells #[i64 0, i64 0, i64 0, i64 0, i64 0, i64 0, i64 0, i64 0, i64 0, i64 0, i64 0, i64 0, i64 0, i64 0, i64 0, i64 0] 77)) p (oct c.kind ++ (eID c.id ++ rest)) := Blk.alloc h _
  have ok := okArg_t
  have C1 := Lib.hid (fun w => checkCmd_any c w)
  rw [hc] at C1
  have hz : (#[i64 c.kind, i64 c.id.shard, i64 c.id.index, i64 c.id.gen, i64 c.b.id.shard, i64 c.b.id.index, i64 c.b.id.gen, i64 c.b.mask, i64 c.b.x, i64 c.b.y, i64 c.b.vx, i64 c.b.vy, i64 c.b.hp, i64 c.b.power, i64 c.b.left, i64 c.mask] : Array Value) = #[i64 c.kind, i64 c.id.shard, i64 c.id.index, i64 c.id.gen, i64 0, i64 0, i64 0, i64 0, i64 0, i64 0, i64 0, i64 0, i64 0, i64 0, i64 0, i64 0] := by
    have e : c.kind = 2 := by simpa using h2
    have := hc
    simp [chkCmd, e] at this
    rw [this.1.1, this.1.2]; rfl
  have b0 : (eID c.id ++ rest).length ≤ 1099511627776 := by have := eID_len hb; rw [List.length_append]; generalize (eID c.id).length = q at this ⊢; omega
  have T1 := Lib.hid (fun w (h : Rdr w p (eID c.id ++ rest)) => takeID_any c.id rest p w hb h (by omega))
  have T0 := Lib.hid (rInt_any c.kind _ p _ hI h0 b0)
  clear h h0 b0 hc hI
  go_enter Tryz.func40, Tryz.ntmps40
  go_wp2_with (first
    | (go_at_call 38; refine T0.out.mono ?_; rintro e w1 ⟨rfl, hr1, hg1⟩; have hs1 : w.heap.size < w1.heap.size := (by have := hg1.size; simp at this; omega); have H1 := Lib.hid (And.intro (Blk.alloc hr1 (.cells #[i64 c.kind, i64 0, i64 0, i64 0, i64 0, i64 0, i64 0, i64 0, i64 0, i64 0, i64 0, i64 0, i64 0, i64 0, i64 0, i64 0] 77)) (Blk.new w1 77 #[i64 c.kind, i64 0, i64 0, i64 0, i64 0, i64 0, i64 0, i64 0, i64 0, i64 0, i64 0, i64 0, i64 0, i64 0, i64 0, i64 0])); clear hr1)
    | (go_at_call 44; refine (T1.out _ H1.out.1).mono ?_; rintro e w2 ⟨rfl, hr2, hg2⟩; have hBc := H1.out.2.chg hg2 (by simp; omega); have k2 := fun j => hBc.cell j; have f2 := fun j => hBc.frozen j; have hBd := setI1_blk c.id hBc; have hRd : Rdr (setI1 w2 w1.heap.size c.id) p rest := setI1_far c.id hr2 (by omega); have hb3lt : w1.heap.size < w2.heap.size := hBc.lt))
  have hB1 : Blk (w1.alloc (.cells #[i64 c.kind, i64 0, i64 0, i64 0, i64 0, i64 0, i64 0, i64 0, i64 0, i64 0, i64 0, i64 0, i64 0, i64 0, i64 0, i64 0] 77)) w.heap.size 77 #[i64 0, i64 0, i64 0, i64 0, i64 0, i64 0, i64 0, i64 0, i64 0, i64 0, i64 0, i64 0, i64 0, i64 0, i64 0, i64 0] := ((Blk.new w _ _).chg hg1 (by simp; omega)).alloc _
  have hgW1 : Chg [p] w (w1.alloc (.cells #[i64 c.kind, i64 0, i64 0, i64 0, i64 0, i64 0, i64 0, i64 0, i64 0, i64 0, i64 0, i64 0, i64 0, i64 0, i64 0, i64 0] 77)) := ((((Chg.refl [p] w).alloc _).trans hg1).alloc _)
  have hpB3 : p ≠ w1.heap.size := by omega
  obtain ⟨B3, hB3d⟩ : ∃ B3, B3 = w1.heap.size := ⟨_, rfl⟩
  rw [← hB3d] at hpB3 ⊢
  have hsB3 : w.heap.size < B3 := by omega
  change Code.wp _ _ _ _ (setI1 w2 B3 c.id)
  rw [← hB3d] at hBd
  have hB3 := hBd
  rw [← hz] at hB3
  have hRlW : Rdr (setI1 w2 B3 c.id) p rest := setI1_far c.id hr2 hpB3
  have hB : Blk (setI1 w2 B3 c.id) w.heap.size 77 #[i64 0, i64 0, i64 0, i64 0, i64 0, i64 0, i64 0, i64 0, i64 0, i64 0, i64 0, i64 0, i64 0, i64 0, i64 0, i64 0] := setI1_far c.id (hB1.chg hg2 (by simp; omega)) (by omega)
  have hgW : Chg [p] w (setI1 w2 B3 c.id) := setI1_chg c.id (hgW1.trans hg2) (.inr (by omega))
  clear k2 f2 hBc hBd hRd hg2 hr2 hB1 hgW1 hg1 H1 T0 T1 hz hB3d hb3lt
  generalize setI1 w2 B3 c.id = W at hB3 hRlW hB hgW ⊢

  have hRl := hRlW
  have c0 : W.cell? ⟨B3, 0, none⟩ = some (i64 c.kind) := hB3.cell 0
  have c1 : W.cell? ⟨B3, 1, none⟩ = some (i64 c.id.shard) := hB3.cell 1
  have c2 : W.cell? ⟨B3, 2, none⟩ = some (i64 c.id.index) := hB3.cell 2
  have c3 : W.cell? ⟨B3, 3, none⟩ = some (i64 c.id.gen) := hB3.cell 3
  have c4 : W.cell? ⟨B3, 4, none⟩ = some (i64 c.b.id.shard) := hB3.cell 4
  have c5 : W.cell? ⟨B3, 5, none⟩ = some (i64 c.b.id.index) := hB3.cell 5
  have c6 : W.cell? ⟨B3, 6, none⟩ = some (i64 c.b.id.gen) := hB3.cell 6
  have c7 : W.cell? ⟨B3, 7, none⟩ = some (i64 c.b.mask) := hB3.cell 7
  have c8 : W.cell? ⟨B3, 8, none⟩ = some (i64 c.b.x) := hB3.cell 8
  have c9 : W.cell? ⟨B3, 9, none⟩ = some (i64 c.b.y) := hB3.cell 9
  have c10 : W.cell? ⟨B3, 10, none⟩ = some (i64 c.b.vx) := hB3.cell 10
  have c11 : W.cell? ⟨B3, 11, none⟩ = some (i64 c.b.vy) := hB3.cell 11
  have c12 : W.cell? ⟨B3, 12, none⟩ = some (i64 c.b.hp) := hB3.cell 12
  have c13 : W.cell? ⟨B3, 13, none⟩ = some (i64 c.b.power) := hB3.cell 13
  have c14 : W.cell? ⟨B3, 14, none⟩ = some (i64 c.b.left) := hB3.cell 14
  have c15 : W.cell? ⟨B3, 15, none⟩ = some (i64 c.mask) := hB3.cell 15
  have hs3 : B3 < W.heap.size := hB3.lt
  clear hpB3
  have hne3 : ¬ (B3 = w.heap.size) := by omega
  have hne4 : ¬ (w.heap.size = B3) := by omega
  go_region_held3 (fun W => W.cell? ⟨B3, 0, none⟩ = some (i64 c.kind) ∧ W.cell? ⟨B3, 1, none⟩ = some (i64 c.id.shard) ∧ W.cell? ⟨B3, 2, none⟩ = some (i64 c.id.index) ∧ W.cell? ⟨B3, 3, none⟩ = some (i64 c.id.gen) ∧ W.cell? ⟨B3, 4, none⟩ = some (i64 c.b.id.shard) ∧ W.cell? ⟨B3, 5, none⟩ = some (i64 c.b.id.index) ∧ W.cell? ⟨B3, 6, none⟩ = some (i64 c.b.id.gen) ∧ W.cell? ⟨B3, 7, none⟩ = some (i64 c.b.mask) ∧ W.cell? ⟨B3, 8, none⟩ = some (i64 c.b.x) ∧ W.cell? ⟨B3, 9, none⟩ = some (i64 c.b.y) ∧ W.cell? ⟨B3, 10, none⟩ = some (i64 c.b.vx) ∧ W.cell? ⟨B3, 11, none⟩ = some (i64 c.b.vy) ∧ W.cell? ⟨B3, 12, none⟩ = some (i64 c.b.hp) ∧ W.cell? ⟨B3, 13, none⟩ = some (i64 c.b.power) ∧ W.cell? ⟨B3, 14, none⟩ = some (i64 c.b.left) ∧ W.cell? ⟨B3, 15, none⟩ = some (i64 c.mask)) (first | go_keep | (simp only [cells_keep hg4 (b := B3) (by first | assumption | (simp; done)) (by simp)]; go_keep) | (simp only [cells_keep hg5 (b := B3) (by first | assumption | (simp; done)) (by simp)]; go_keep))
    (first
    | (go_at_call 61; refine (C1.out _).mono ?_; rintro e w4 ⟨rfl, hg4⟩; have hs4 : B3 < w4.heap.size := (by have := hg4.size; simp at this; omega))
    | (go_at_call 78; refine (soundCmd_any c p rest _ (Blk.chg (Blk.drew hRl) hg4 (by simp))).mono ?_; rintro e w5 ⟨rfl, hg5⟩; have hs5 : B3 < w5.heap.size := (by have := hg5.size; omega); have hB5 := (hB.drew.chg hg4 (by simp)).chg hg5 (by simp); have f5 := fun j => hB5.frozen j; have q0 : w5.cell? ⟨w.heap.size, 0, none⟩ = some (i64 0) := hB5.cell 0; have q1 : w5.cell? ⟨w.heap.size, 1, none⟩ = some (i64 0) := hB5.cell 1; have q2 : w5.cell? ⟨w.heap.size, 2, none⟩ = some (i64 0) := hB5.cell 2; have q3 : w5.cell? ⟨w.heap.size, 3, none⟩ = some (i64 0) := hB5.cell 3; have q4 : w5.cell? ⟨w.heap.size, 4, none⟩ = some (i64 0) := hB5.cell 4; have q5 : w5.cell? ⟨w.heap.size, 5, none⟩ = some (i64 0) := hB5.cell 5; have q6 : w5.cell? ⟨w.heap.size, 6, none⟩ = some (i64 0) := hB5.cell 6; have q7 : w5.cell? ⟨w.heap.size, 7, none⟩ = some (i64 0) := hB5.cell 7; have q8 : w5.cell? ⟨w.heap.size, 8, none⟩ = some (i64 0) := hB5.cell 8; have q9 : w5.cell? ⟨w.heap.size, 9, none⟩ = some (i64 0) := hB5.cell 9; have q10 : w5.cell? ⟨w.heap.size, 10, none⟩ = some (i64 0) := hB5.cell 10; have q11 : w5.cell? ⟨w.heap.size, 11, none⟩ = some (i64 0) := hB5.cell 11; have q12 : w5.cell? ⟨w.heap.size, 12, none⟩ = some (i64 0) := hB5.cell 12; have q13 : w5.cell? ⟨w.heap.size, 13, none⟩ = some (i64 0) := hB5.cell 13; have q14 : w5.cell? ⟨w.heap.size, 14, none⟩ = some (i64 0) := hB5.cell 14; have q15 : w5.cell? ⟨w.heap.size, 15, none⟩ = some (i64 0) := hB5.cell 15))
  all_goals (
    have hR5 : Rdr w5 p rest := (Blk.chg (Blk.drew hRl) hg4 (by simp)).chg hg5 (by simp)
    have hC5 : Chg [p] w w5 := (hgW.drew.then_ hg4 (by simp)).then_ hg5 (by simp)
    have hpne : p ≠ w.heap.size := by omega
    have hBf := setCmd_blk c hB5
    have hRf2 : Rdr (setCmd w5 w.heap.size c) p rest := setCmd_far c hR5 hpne
    have hCf2 : Chg [p] w (setCmd w5 w.heap.size c) := setCmd_chg c hC5 (.inr (Nat.le_refl _))
    clear hgW hB hRl hg4 hg5 hB5 hC5 hR5 c0 c1 c2 c3 c4 c5 c6 c7 c8 c9 c10 c11 c12 c13 c14 c15
    go_wp2_with fail
    (try simp only [Exit.inBlock, Exit.then])
    change bodyPost _ _ _ _ _ (setCmd w5 w.heap.size c)
    clear q0 q1 q2 q3 q4 q5 q6 q7 q8 q9 q10 q11 q12 q13 q14 q15
    generalize setCmd w5 w.heap.size c = WF at hBf hRf2 hCf2 ⊢
    refine bodyPost_ret (results_cell_row rfl _ _ w.heap.size 77 #[i64 c.kind, i64 c.id.shard, i64 c.id.index, i64 c.id.gen, i64 c.b.id.shard, i64 c.b.id.index, i64 c.b.id.gen, i64 c.b.mask, i64 c.b.x, i64 c.b.y, i64 c.b.vx, i64 c.b.vy, i64 c.b.hp, i64 c.b.power, i64 c.b.left, i64 c.mask] (0, 0) _ rfl hBf Tryz.underlying77 rfl (by kernel_rfl)) rfl ?_
    exact ⟨rfl, hRf2, hCf2⟩)
end Go.Proofs.YtofnehgjkdcmnaaGreatDoor

/- The walk of codec.TakeCmd, kind 3. (made by a small program) -/
namespace Go.Proofs.YtofnehgjkdcmnaaGreatDoor
open Go.RowKit Hg

set_option maxHeartbeats 8000000 in
set_option maxRecDepth 100000 in
theorem takeCmd_3 (c : Cmd) (rest : Bytes) (p : Nat) (w : World) (hI : I64 c.kind) (h1 : (c.kind == 1) = false) (h2 : (c.kind == 2) = false) (h3 : (c.kind == 3) = true) (hb : right c.b = true ∧ chkID c.id = true) (hc : chkCmd c = true) (h : Rdr w p (oct c.kind ++ (eID c.id ++ (eParts c.b ++ rest)))) (hs : rest.length ≤ 998000000) :
    Calls Tryz.prog 40 #[.pointer (some ⟨p, 0, none⟩)] w (RetR (cmdV c) p rest w) := by
  have hp := h.lt
  have h0 : Rdr (w.alloc (.cells #[i64 0, i64 0, i64 0, i64 0, i64 0, i64 0, i64 0, i64 0, i64 0, i64 0, i64 0, i64 0, i64 0, i64 0, i64 0, i64 0] 77)) p (oct c.kind ++ (eID c.id ++ (eParts c.b ++ rest))) := Blk.alloc h _
  have ok := okArg_t
  have C1 := Lib.hid (fun w => checkCmd_any c w)
  rw [hc] at C1
  have hz : (#[i64 c.kind, i64 c.id.shard, i64 c.id.index, i64 c.id.gen, i64 c.b.id.shard, i64 c.b.id.index, i64 c.b.id.gen, i64 c.b.mask, i64 c.b.x, i64 c.b.y, i64 c.b.vx, i64 c.b.vy, i64 c.b.hp, i64 c.b.power, i64 c.b.left, i64 c.mask] : Array Value) = #[i64 c.kind, i64 c.id.shard, i64 c.id.index, i64 c.id.gen, i64 c.b.id.shard, i64 c.b.id.index, i64 c.b.id.gen, i64 c.b.mask, i64 c.b.x, i64 c.b.y, i64 c.b.vx, i64 c.b.vy, i64 c.b.hp, i64 c.b.power, i64 c.b.left, i64 0] := by
    have e : c.kind = 3 := by simpa using h3
    have := hc
    simp [chkCmd, e] at this
    rw [this.1.1.1.1]
  have hbid : c.b.id = id0 := by
    have e : c.kind = 3 := by simpa using h3
    have := hc
    simp [chkCmd, e] at this
    exact this.1.1.1.2
  have hbb : ({ c.b with id := id0 } : Bun) = c.b := by rw [← hbid]
  have b1 : (eParts c.b ++ rest).length ≤ 999000000 := by have := eParts_len hb.1; rw [List.length_append]; generalize (eParts c.b).length = q at this ⊢; omega
  have b0 : (eID c.id ++ (eParts c.b ++ rest)).length ≤ 1099511627776 := by have := eID_len hb.2; rw [List.length_append]; generalize (eID c.id).length = q at this ⊢; omega
  have T1 := Lib.hid (fun w (h : Rdr w p (eID c.id ++ (eParts c.b ++ rest))) => takeID_any c.id (eParts c.b ++ rest) p w hb.2 h (by omega))
  have T2 := Lib.hid (fun w (h : Rdr w p (eParts c.b ++ rest)) => (take_any c.b rest p w hb.1 h (by omega)).mono (R' := RetR (bunV c.b) p rest w) (fun e W h => by rw [← hbb]; exact h))
  clear hbid hbb b1
  have T0 := Lib.hid (rInt_any c.kind _ p _ hI h0 b0)
  clear h h0 b0 hc hI
  go_enter Tryz.func40, Tryz.ntmps40
  go_wp2_with (first
    | (go_at_call 38; refine T0.out.mono ?_; rintro e w1 ⟨rfl, hr1, hg1⟩; have hs1 : w.heap.size < w1.heap.size := (by have := hg1.size; simp at this; omega); have H1 := Lib.hid (And.intro (Blk.alloc hr1 (.cells #[i64 c.kind, i64 0, i64 0, i64 0, i64 0, i64 0, i64 0, i64 0, i64 0, i64 0, i64 0, i64 0, i64 0, i64 0, i64 0, i64 0] 77)) (Blk.new w1 77 #[i64 c.kind, i64 0, i64 0, i64 0, i64 0, i64 0, i64 0, i64 0, i64 0, i64 0, i64 0, i64 0, i64 0, i64 0, i64 0, i64 0])); clear hr1)
    | (go_at_call 44; refine (T1.out _ H1.out.1).mono ?_; rintro e w2 ⟨rfl, hr2, hg2⟩; have hBc := H1.out.2.chg hg2 (by simp; omega); have k2 := fun j => hBc.cell j; have f2 := fun j => hBc.frozen j; have hBd := setI1_blk c.id hBc; have hRd : Rdr (setI1 w2 w1.heap.size c.id) p (eParts c.b ++ rest) := setI1_far c.id hr2 (by omega); have hb3lt : w1.heap.size < w2.heap.size := hBc.lt)
    | (go_at_call 77; refine (T2.out (setI1 w2 w1.heap.size c.id) hRd).mono ?_; rintro e w3 ⟨rfl, hr3, hg3⟩; have hBe := hBd.chg hg3 (by simp; omega); have k3 := fun j => hBe.cell j; have f3 := fun j => hBe.frozen j))
  have hB1 : Blk (w1.alloc (.cells #[i64 c.kind, i64 0, i64 0, i64 0, i64 0, i64 0, i64 0, i64 0, i64 0, i64 0, i64 0, i64 0, i64 0, i64 0, i64 0, i64 0] 77)) w.heap.size 77 #[i64 0, i64 0, i64 0, i64 0, i64 0, i64 0, i64 0, i64 0, i64 0, i64 0, i64 0, i64 0, i64 0, i64 0, i64 0, i64 0] := ((Blk.new w _ _).chg hg1 (by simp; omega)).alloc _
  have hgW1 : Chg [p] w (w1.alloc (.cells #[i64 c.kind, i64 0, i64 0, i64 0, i64 0, i64 0, i64 0, i64 0, i64 0, i64 0, i64 0, i64 0, i64 0, i64 0, i64 0, i64 0] 77)) := ((((Chg.refl [p] w).alloc _).trans hg1).alloc _)
  have hpB3 : p ≠ w1.heap.size := by omega
  obtain ⟨B3, hB3d⟩ : ∃ B3, B3 = w1.heap.size := ⟨_, rfl⟩
  rw [← hB3d] at hpB3 ⊢
  have hsB3 : w.heap.size < B3 := by omega
  change Code.wp _ _ _ _ (setB4 w3 B3 c.b)
  rw [← hB3d] at hBe hg3
  have hB3 := setB4_blk c.b hBe
  rw [← hz] at hB3
  have hRlW : Rdr (setB4 w3 B3 c.b) p rest := setB4_far c.b hr3 hpB3
  have hB : Blk (setB4 w3 B3 c.b) w.heap.size 77 #[i64 0, i64 0, i64 0, i64 0, i64 0, i64 0, i64 0, i64 0, i64 0, i64 0, i64 0, i64 0, i64 0, i64 0, i64 0, i64 0] := setB4_far c.b (Blk.chg (setI1_far c.id (hB1.chg hg2 (by simp; omega)) (by omega)) hg3 (by simp; omega)) (by omega)
  have hgW : Chg [p] w (setB4 w3 B3 c.b) := setB4_chg c.b ((setI1_chg c.id (hgW1.trans hg2) (.inr (by omega))).trans hg3) (.inr (by omega))
  clear k2 f2 k3 f3 hBc hBd hBe hRd hg2 hg3 hr2 hr3 hB1 hgW1 hg1 H1 T0 T1 T2 hz hB3d hb3lt
  generalize setB4 w3 B3 c.b = W at hB3 hRlW hB hgW ⊢

  have hRl := hRlW
  have c0 : W.cell? ⟨B3, 0, none⟩ = some (i64 c.kind) := hB3.cell 0
  have c1 : W.cell? ⟨B3, 1, none⟩ = some (i64 c.id.shard) := hB3.cell 1
  have c2 : W.cell? ⟨B3, 2, none⟩ = some (i64 c.id.index) := hB3.cell 2
  have c3 : W.cell? ⟨B3, 3, none⟩ = some (i64 c.id.gen) := hB3.cell 3
  have c4 : W.cell? ⟨B3, 4, none⟩ = some (i64 c.b.id.shard) := hB3.cell 4
  have c5 : W.cell? ⟨B3, 5, none⟩ = some (i64 c.b.id.index) := hB3.cell 5
  have c6 : W.cell? ⟨B3, 6, none⟩ = some (i64 c.b.id.gen) := hB3.cell 6
  have c7 : W.cell? ⟨B3, 7, none⟩ = some (i64 c.b.mask) := hB3.cell 7
  have c8 : W.cell? ⟨B3, 8, none⟩ = some (i64 c.b.x) := hB3.cell 8
  have c9 : W.cell? ⟨B3, 9, none⟩ = some (i64 c.b.y) := hB3.cell 9
  have c10 : W.cell? ⟨B3, 10, none⟩ = some (i64 c.b.vx) := hB3.cell 10
  have c11 : W.cell? ⟨B3, 11, none⟩ = some (i64 c.b.vy) := hB3.cell 11
  have c12 : W.cell? ⟨B3, 12, none⟩ = some (i64 c.b.hp) := hB3.cell 12
  have c13 : W.cell? ⟨B3, 13, none⟩ = some (i64 c.b.power) := hB3.cell 13
  have c14 : W.cell? ⟨B3, 14, none⟩ = some (i64 c.b.left) := hB3.cell 14
  have c15 : W.cell? ⟨B3, 15, none⟩ = some (i64 c.mask) := hB3.cell 15
  have hs3 : B3 < W.heap.size := hB3.lt
  clear hpB3
  have hne3 : ¬ (B3 = w.heap.size) := by omega
  have hne4 : ¬ (w.heap.size = B3) := by omega
  go_region_held3 (fun W => W.cell? ⟨B3, 0, none⟩ = some (i64 c.kind) ∧ W.cell? ⟨B3, 1, none⟩ = some (i64 c.id.shard) ∧ W.cell? ⟨B3, 2, none⟩ = some (i64 c.id.index) ∧ W.cell? ⟨B3, 3, none⟩ = some (i64 c.id.gen) ∧ W.cell? ⟨B3, 4, none⟩ = some (i64 c.b.id.shard) ∧ W.cell? ⟨B3, 5, none⟩ = some (i64 c.b.id.index) ∧ W.cell? ⟨B3, 6, none⟩ = some (i64 c.b.id.gen) ∧ W.cell? ⟨B3, 7, none⟩ = some (i64 c.b.mask) ∧ W.cell? ⟨B3, 8, none⟩ = some (i64 c.b.x) ∧ W.cell? ⟨B3, 9, none⟩ = some (i64 c.b.y) ∧ W.cell? ⟨B3, 10, none⟩ = some (i64 c.b.vx) ∧ W.cell? ⟨B3, 11, none⟩ = some (i64 c.b.vy) ∧ W.cell? ⟨B3, 12, none⟩ = some (i64 c.b.hp) ∧ W.cell? ⟨B3, 13, none⟩ = some (i64 c.b.power) ∧ W.cell? ⟨B3, 14, none⟩ = some (i64 c.b.left) ∧ W.cell? ⟨B3, 15, none⟩ = some (i64 c.mask)) (first | go_keep | (simp only [cells_keep hg4 (b := B3) (by first | assumption | (simp; done)) (by simp)]; go_keep) | (simp only [cells_keep hg5 (b := B3) (by first | assumption | (simp; done)) (by simp)]; go_keep))
    (first
    | (go_at_call 61; refine (C1.out _).mono ?_; rintro e w4 ⟨rfl, hg4⟩; have hs4 : B3 < w4.heap.size := (by have := hg4.size; simp at this; omega))
    | (go_at_call 78; refine (soundCmd_any c p rest _ (Blk.chg (Blk.drew hRl) hg4 (by simp))).mono ?_; rintro e w5 ⟨rfl, hg5⟩; have hs5 : B3 < w5.heap.size := (by have := hg5.size; omega); have hB5 := (hB.drew.chg hg4 (by simp)).chg hg5 (by simp); have f5 := fun j => hB5.frozen j; have q0 : w5.cell? ⟨w.heap.size, 0, none⟩ = some (i64 0) := hB5.cell 0; have q1 : w5.cell? ⟨w.heap.size, 1, none⟩ = some (i64 0) := hB5.cell 1; have q2 : w5.cell? ⟨w.heap.size, 2, none⟩ = some (i64 0) := hB5.cell 2; have q3 : w5.cell? ⟨w.heap.size, 3, none⟩ = some (i64 0) := hB5.cell 3; have q4 : w5.cell? ⟨w.heap.size, 4, none⟩ = some (i64 0) := hB5.cell 4; have q5 : w5.cell? ⟨w.heap.size, 5, none⟩ = some (i64 0) := hB5.cell 5; have q6 : w5.cell? ⟨w.heap.size, 6, none⟩ = some (i64 0) := hB5.cell 6; have q7 : w5.cell? ⟨w.heap.size, 7, none⟩ = some (i64 0) := hB5.cell 7; have q8 : w5.cell? ⟨w.heap.size, 8, none⟩ = some (i64 0) := hB5.cell 8; have q9 : w5.cell? ⟨w.heap.size, 9, none⟩ = some (i64 0) := hB5.cell 9; have q10 : w5.cell? ⟨w.heap.size, 10, none⟩ = some (i64 0) := hB5.cell 10; have q11 : w5.cell? ⟨w.heap.size, 11, none⟩ = some (i64 0) := hB5.cell 11; have q12 : w5.cell? ⟨w.heap.size, 12, none⟩ = some (i64 0) := hB5.cell 12; have q13 : w5.cell? ⟨w.heap.size, 13, none⟩ = some (i64 0) := hB5.cell 13; have q14 : w5.cell? ⟨w.heap.size, 14, none⟩ = some (i64 0) := hB5.cell 14; have q15 : w5.cell? ⟨w.heap.size, 15, none⟩ = some (i64 0) := hB5.cell 15))
  all_goals (
    have hR5 : Rdr w5 p rest := (Blk.chg (Blk.drew hRl) hg4 (by simp)).chg hg5 (by simp)
    have hC5 : Chg [p] w w5 := (hgW.drew.then_ hg4 (by simp)).then_ hg5 (by simp)
    have hpne : p ≠ w.heap.size := by omega
    have hBf := setCmd_blk c hB5
    have hRf2 : Rdr (setCmd w5 w.heap.size c) p rest := setCmd_far c hR5 hpne
    have hCf2 : Chg [p] w (setCmd w5 w.heap.size c) := setCmd_chg c hC5 (.inr (Nat.le_refl _))
    clear hgW hB hRl hg4 hg5 hB5 hC5 hR5 c0 c1 c2 c3 c4 c5 c6 c7 c8 c9 c10 c11 c12 c13 c14 c15
    go_wp2_with fail
    (try simp only [Exit.inBlock, Exit.then])
    change bodyPost _ _ _ _ _ (setCmd w5 w.heap.size c)
    clear q0 q1 q2 q3 q4 q5 q6 q7 q8 q9 q10 q11 q12 q13 q14 q15
    generalize setCmd w5 w.heap.size c = WF at hBf hRf2 hCf2 ⊢
    refine bodyPost_ret (results_cell_row rfl _ _ w.heap.size 77 #[i64 c.kind, i64 c.id.shard, i64 c.id.index, i64 c.id.gen, i64 c.b.id.shard, i64 c.b.id.index, i64 c.b.id.gen, i64 c.b.mask, i64 c.b.x, i64 c.b.y, i64 c.b.vx, i64 c.b.vy, i64 c.b.hp, i64 c.b.power, i64 c.b.left, i64 c.mask] (0, 0) _ rfl hBf Tryz.underlying77 rfl (by kernel_rfl)) rfl ?_
    exact ⟨rfl, hRf2, hCf2⟩)
end Go.Proofs.YtofnehgjkdcmnaaGreatDoor

/- The walk of codec.TakeCmd, kind 4. (made by a small program) -/
namespace Go.Proofs.YtofnehgjkdcmnaaGreatDoor
open Go.RowKit Hg

set_option maxHeartbeats 8000000 in
set_option maxRecDepth 100000 in
theorem takeCmd_4 (c : Cmd) (rest : Bytes) (p : Nat) (w : World) (hI : I64 c.kind) (h1 : (c.kind == 1) = false) (h2 : (c.kind == 2) = false) (h3 : (c.kind == 3) = false) (h4 : (c.kind == 4) = true) (hb : I64 c.mask ∧ chkID c.id = true) (hc : chkCmd c = true) (h : Rdr w p (oct c.kind ++ (eID c.id ++ (oct c.mask ++ rest)))) (hs : rest.length ≤ 998000000) :
    Calls Tryz.prog 40 #[.pointer (some ⟨p, 0, none⟩)] w (RetR (cmdV c) p rest w) := by
  have hp := h.lt
  have h0 : Rdr (w.alloc (.cells #[i64 0, i64 0, i64 0, i64 0, i64 0, i64 0, i64 0, i64 0, i64 0, i64 0, i64 0, i64 0, i64 0, i64 0, i64 0, i64 0] 77)) p (oct c.kind ++ (eID c.id ++ (oct c.mask ++ rest))) := Blk.alloc h _
  have ok := okArg_t
  have C1 := Lib.hid (fun w => checkCmd_any c w)
  rw [hc] at C1
  have hz : (#[i64 c.kind, i64 c.id.shard, i64 c.id.index, i64 c.id.gen, i64 c.b.id.shard, i64 c.b.id.index, i64 c.b.id.gen, i64 c.b.mask, i64 c.b.x, i64 c.b.y, i64 c.b.vx, i64 c.b.vy, i64 c.b.hp, i64 c.b.power, i64 c.b.left, i64 c.mask] : Array Value) = #[i64 c.kind, i64 c.id.shard, i64 c.id.index, i64 c.id.gen, i64 0, i64 0, i64 0, i64 0, i64 0, i64 0, i64 0, i64 0, i64 0, i64 0, i64 0, i64 c.mask] := by
    have e : c.kind = 4 := by simpa using h4
    have := hc
    simp [chkCmd, e] at this
    rw [this.1.2]; rfl
  have b1 : (oct c.mask ++ rest).length ≤ 999000000 := by
    have : (octs [c.mask]).length ≤ 1 * 9 := octs_len (by simpa using hb.1)
    rw [octs_one] at this; rw [List.length_append]; generalize (oct c.mask).length = q at this ⊢; omega
  have b0 : (eID c.id ++ (oct c.mask ++ rest)).length ≤ 1099511627776 := by have := eID_len hb.2; rw [List.length_append]; generalize (eID c.id).length = q at this ⊢; omega
  have T1 := Lib.hid (fun w (h : Rdr w p (eID c.id ++ (oct c.mask ++ rest))) => takeID_any c.id (oct c.mask ++ rest) p w hb.2 h (by omega))
  have T2 := Lib.hid (fun w (h : Rdr w p (oct c.mask ++ rest)) => rInt_any c.mask rest p w hb.1 h (by omega))
  clear b1
  have T0 := Lib.hid (rInt_any c.kind _ p _ hI h0 b0)
  clear h h0 b0 hc hI
  go_enter Tryz.func40, Tryz.ntmps40
  go_wp2_with (first
    | (go_at_call 38; refine T0.out.mono ?_; rintro e w1 ⟨rfl, hr1, hg1⟩; have hs1 : w.heap.size < w1.heap.size := (by have := hg1.size; simp at this; omega); have H1 := Lib.hid (And.intro (Blk.alloc hr1 (.cells #[i64 c.kind, i64 0, i64 0, i64 0, i64 0, i64 0, i64 0, i64 0, i64 0, i64 0, i64 0, i64 0, i64 0, i64 0, i64 0, i64 0] 77)) (Blk.new w1 77 #[i64 c.kind, i64 0, i64 0, i64 0, i64 0, i64 0, i64 0, i64 0, i64 0, i64 0, i64 0, i64 0, i64 0, i64 0, i64 0, i64 0])); clear hr1)
    | (go_at_call 44; refine (T1.out _ H1.out.1).mono ?_; rintro e w2 ⟨rfl, hr2, hg2⟩; have hBc := H1.out.2.chg hg2 (by simp; omega); have k2 := fun j => hBc.cell j; have f2 := fun j => hBc.frozen j; have hBd := setI1_blk c.id hBc; have hRd : Rdr (setI1 w2 w1.heap.size c.id) p (oct c.mask ++ rest) := setI1_far c.id hr2 (by omega); have hb3lt : w1.heap.size < w2.heap.size := hBc.lt)
    | (go_at_call 38; refine (T2.out (setI1 w2 w1.heap.size c.id) hRd).mono ?_; rintro e w3 ⟨rfl, hr3, hg3⟩; have hBe := hBd.chg hg3 (by simp; omega); have k3 := fun j => hBe.cell j; have f3 := fun j => hBe.frozen j))
  have hB1 : Blk (w1.alloc (.cells #[i64 c.kind, i64 0, i64 0, i64 0, i64 0, i64 0, i64 0, i64 0, i64 0, i64 0, i64 0, i64 0, i64 0, i64 0, i64 0, i64 0] 77)) w.heap.size 77 #[i64 0, i64 0, i64 0, i64 0, i64 0, i64 0, i64 0, i64 0, i64 0, i64 0, i64 0, i64 0, i64 0, i64 0, i64 0, i64 0] := ((Blk.new w _ _).chg hg1 (by simp; omega)).alloc _
  have hgW1 : Chg [p] w (w1.alloc (.cells #[i64 c.kind, i64 0, i64 0, i64 0, i64 0, i64 0, i64 0, i64 0, i64 0, i64 0, i64 0, i64 0, i64 0, i64 0, i64 0, i64 0] 77)) := ((((Chg.refl [p] w).alloc _).trans hg1).alloc _)
  have hpB3 : p ≠ w1.heap.size := by omega
  obtain ⟨B3, hB3d⟩ : ∃ B3, B3 = w1.heap.size := ⟨_, rfl⟩
  rw [← hB3d] at hpB3 ⊢
  have hsB3 : w.heap.size < B3 := by omega
  change Code.wp _ _ _ _ (w3.setCell ⟨B3, 15, none⟩ (i64 c.mask))
  rw [← hB3d] at hBe hg3
  have hB3 : Blk (w3.setCell ⟨B3, 15, none⟩ (i64 c.mask)) B3 77 #[i64 c.kind, i64 c.id.shard, i64 c.id.index, i64 c.id.gen, i64 0, i64 0, i64 0, i64 0, i64 0, i64 0, i64 0, i64 0, i64 0, i64 0, i64 0, i64 c.mask] := hBe.set_ 15 _
  rw [← hz] at hB3
  have hRlW : Rdr (w3.setCell ⟨B3, 15, none⟩ (i64 c.mask)) p rest := Blk.far hr3 hpB3 _
  have hB : Blk (w3.setCell ⟨B3, 15, none⟩ (i64 c.mask)) w.heap.size 77 #[i64 0, i64 0, i64 0, i64 0, i64 0, i64 0, i64 0, i64 0, i64 0, i64 0, i64 0, i64 0, i64 0, i64 0, i64 0, i64 0] := Blk.far (Blk.chg (setI1_far c.id (hB1.chg hg2 (by simp; omega)) (by omega)) hg3 (by simp; omega)) (by simp; omega) _
  have hgW : Chg [p] w (w3.setCell ⟨B3, 15, none⟩ (i64 c.mask)) := Chg.setCell ((setI1_chg c.id (hgW1.trans hg2) (.inr (by omega))).trans hg3) (.inr (by simp; omega)) _
  clear k2 f2 k3 f3 hBc hBd hBe hRd hg2 hg3 hr2 hr3 hB1 hgW1 hg1 H1 T0 T1 T2 hz hB3d hb3lt
  generalize w3.setCell ⟨B3, 15, none⟩ (i64 c.mask) = W at hB3 hRlW hB hgW ⊢

  have hRl := hRlW
  have c0 : W.cell? ⟨B3, 0, none⟩ = some (i64 c.kind) := hB3.cell 0
  have c1 : W.cell? ⟨B3, 1, none⟩ = some (i64 c.id.shard) := hB3.cell 1
  have c2 : W.cell? ⟨B3, 2, none⟩ = some (i64 c.id.index) := hB3.cell 2
  have c3 : W.cell? ⟨B3, 3, none⟩ = some (i64 c.id.gen) := hB3.cell 3
  have c4 : W.cell? ⟨B3, 4, none⟩ = some (i64 c.b.id.shard) := hB3.cell 4
  have c5 : W.cell? ⟨B3, 5, none⟩ = some (i64 c.b.id.index) := hB3.cell 5
  have c6 : W.cell? ⟨B3, 6, none⟩ = some (i64 c.b.id.gen) := hB3.cell 6
  have c7 : W.cell? ⟨B3, 7, none⟩ = some (i64 c.b.mask) := hB3.cell 7
  have c8 : W.cell? ⟨B3, 8, none⟩ = some (i64 c.b.x) := hB3.cell 8
  have c9 : W.cell? ⟨B3, 9, none⟩ = some (i64 c.b.y) := hB3.cell 9
  have c10 : W.cell? ⟨B3, 10, none⟩ = some (i64 c.b.vx) := hB3.cell 10
  have c11 : W.cell? ⟨B3, 11, none⟩ = some (i64 c.b.vy) := hB3.cell 11
  have c12 : W.cell? ⟨B3, 12, none⟩ = some (i64 c.b.hp) := hB3.cell 12
  have c13 : W.cell? ⟨B3, 13, none⟩ = some (i64 c.b.power) := hB3.cell 13
  have c14 : W.cell? ⟨B3, 14, none⟩ = some (i64 c.b.left) := hB3.cell 14
  have c15 : W.cell? ⟨B3, 15, none⟩ = some (i64 c.mask) := hB3.cell 15
  have hs3 : B3 < W.heap.size := hB3.lt
  clear hpB3
  have hne3 : ¬ (B3 = w.heap.size) := by omega
  have hne4 : ¬ (w.heap.size = B3) := by omega
  go_region_held3 (fun W => W.cell? ⟨B3, 0, none⟩ = some (i64 c.kind) ∧ W.cell? ⟨B3, 1, none⟩ = some (i64 c.id.shard) ∧ W.cell? ⟨B3, 2, none⟩ = some (i64 c.id.index) ∧ W.cell? ⟨B3, 3, none⟩ = some (i64 c.id.gen) ∧ W.cell? ⟨B3, 4, none⟩ = some (i64 c.b.id.shard) ∧ W.cell? ⟨B3, 5, none⟩ = some (i64 c.b.id.index) ∧ W.cell? ⟨B3, 6, none⟩ = some (i64 c.b.id.gen) ∧ W.cell? ⟨B3, 7, none⟩ = some (i64 c.b.mask) ∧ W.cell? ⟨B3, 8, none⟩ = some (i64 c.b.x) ∧ W.cell? ⟨B3, 9, none⟩ = some (i64 c.b.y) ∧ W.cell? ⟨B3, 10, none⟩ = some (i64 c.b.vx) ∧ W.cell? ⟨B3, 11, none⟩ = some (i64 c.b.vy) ∧ W.cell? ⟨B3, 12, none⟩ = some (i64 c.b.hp) ∧ W.cell? ⟨B3, 13, none⟩ = some (i64 c.b.power) ∧ W.cell? ⟨B3, 14, none⟩ = some (i64 c.b.left) ∧ W.cell? ⟨B3, 15, none⟩ = some (i64 c.mask)) (first | go_keep | (simp only [cells_keep hg4 (b := B3) (by first | assumption | (simp; done)) (by simp)]; go_keep) | (simp only [cells_keep hg5 (b := B3) (by first | assumption | (simp; done)) (by simp)]; go_keep))
    (first
    | (go_at_call 61; refine (C1.out _).mono ?_; rintro e w4 ⟨rfl, hg4⟩; have hs4 : B3 < w4.heap.size := (by have := hg4.size; simp at this; omega))
    | (go_at_call 78; refine (soundCmd_any c p rest _ (Blk.chg (Blk.drew hRl) hg4 (by simp))).mono ?_; rintro e w5 ⟨rfl, hg5⟩; have hs5 : B3 < w5.heap.size := (by have := hg5.size; omega); have hB5 := (hB.drew.chg hg4 (by simp)).chg hg5 (by simp); have f5 := fun j => hB5.frozen j; have q0 : w5.cell? ⟨w.heap.size, 0, none⟩ = some (i64 0) := hB5.cell 0; have q1 : w5.cell? ⟨w.heap.size, 1, none⟩ = some (i64 0) := hB5.cell 1; have q2 : w5.cell? ⟨w.heap.size, 2, none⟩ = some (i64 0) := hB5.cell 2; have q3 : w5.cell? ⟨w.heap.size, 3, none⟩ = some (i64 0) := hB5.cell 3; have q4 : w5.cell? ⟨w.heap.size, 4, none⟩ = some (i64 0) := hB5.cell 4; have q5 : w5.cell? ⟨w.heap.size, 5, none⟩ = some (i64 0) := hB5.cell 5; have q6 : w5.cell? ⟨w.heap.size, 6, none⟩ = some (i64 0) := hB5.cell 6; have q7 : w5.cell? ⟨w.heap.size, 7, none⟩ = some (i64 0) := hB5.cell 7; have q8 : w5.cell? ⟨w.heap.size, 8, none⟩ = some (i64 0) := hB5.cell 8; have q9 : w5.cell? ⟨w.heap.size, 9, none⟩ = some (i64 0) := hB5.cell 9; have q10 : w5.cell? ⟨w.heap.size, 10, none⟩ = some (i64 0) := hB5.cell 10; have q11 : w5.cell? ⟨w.heap.size, 11, none⟩ = some (i64 0) := hB5.cell 11; have q12 : w5.cell? ⟨w.heap.size, 12, none⟩ = some (i64 0) := hB5.cell 12; have q13 : w5.cell? ⟨w.heap.size, 13, none⟩ = some (i64 0) := hB5.cell 13; have q14 : w5.cell? ⟨w.heap.size, 14, none⟩ = some (i64 0) := hB5.cell 14; have q15 : w5.cell? ⟨w.heap.size, 15, none⟩ = some (i64 0) := hB5.cell 15))
  all_goals (
    have hR5 : Rdr w5 p rest := (Blk.chg (Blk.drew hRl) hg4 (by simp)).chg hg5 (by simp)
    have hC5 : Chg [p] w w5 := (hgW.drew.then_ hg4 (by simp)).then_ hg5 (by simp)
    have hpne : p ≠ w.heap.size := by omega
    have hBf := setCmd_blk c hB5
    have hRf2 : Rdr (setCmd w5 w.heap.size c) p rest := setCmd_far c hR5 hpne
    have hCf2 : Chg [p] w (setCmd w5 w.heap.size c) := setCmd_chg c hC5 (.inr (Nat.le_refl _))
    clear hgW hB hRl hg4 hg5 hB5 hC5 hR5 c0 c1 c2 c3 c4 c5 c6 c7 c8 c9 c10 c11 c12 c13 c14 c15
    go_wp2_with fail
    (try simp only [Exit.inBlock, Exit.then])
    change bodyPost _ _ _ _ _ (setCmd w5 w.heap.size c)
    clear q0 q1 q2 q3 q4 q5 q6 q7 q8 q9 q10 q11 q12 q13 q14 q15
    generalize setCmd w5 w.heap.size c = WF at hBf hRf2 hCf2 ⊢
    refine bodyPost_ret (results_cell_row rfl _ _ w.heap.size 77 #[i64 c.kind, i64 c.id.shard, i64 c.id.index, i64 c.id.gen, i64 c.b.id.shard, i64 c.b.id.index, i64 c.b.id.gen, i64 c.b.mask, i64 c.b.x, i64 c.b.y, i64 c.b.vx, i64 c.b.vy, i64 c.b.hp, i64 c.b.power, i64 c.b.left, i64 c.mask] (0, 0) _ rfl hBf Tryz.underlying77 rfl (by kernel_rfl)) rfl ?_
    exact ⟨rfl, hRf2, hCf2⟩)
end Go.Proofs.YtofnehgjkdcmnaaGreatDoor

/- The walk of codec.TakeCmd, all kinds. -/
namespace Go.Proofs.YtofnehgjkdcmnaaGreatDoor
open Go.RowKit Hg

theorem takeCmd_any (c : Cmd) (rest : Bytes) (p : Nat) (w : World) (hc : chkCmd c = true) (h : Rdr w p (eCmd c ++ rest)) (hs : rest.length ≤ 998000000) :
    Calls Tryz.prog 40 #[.pointer (some ⟨p, 0, none⟩)] w (RetR (cmdV c) p rest w) := by
  have hI : I64 c.kind := by rcases chkCmd_kind hc with e | e | e | e <;> rw [e] <;> simp [I64]
  rcases chkCmd_kind hc with e | e | e | e
  · exact takeCmd_1 c rest p w hI (by simp [e]) (chkCmd_1 hc e) hc (by simpa only [eCmd, e, if_true, List.append_assoc] using h) hs
  · exact takeCmd_3 c rest p w hI (by simp [e]) (by simp [e]) (by simp [e]) (chkCmd_3 hc e) hc (by
      have e2 : eCmd c ++ rest = oct c.kind ++ (eID c.id ++ (eParts c.b ++ rest)) := by simp [eCmd, e]
      rw [← e2]; exact h) hs
  · exact takeCmd_4 c rest p w hI (by simp [e]) (by simp [e]) (by simp [e]) (by simp [e]) (chkCmd_4 hc e) hc (by
      have e2 : eCmd c ++ rest = oct c.kind ++ (eID c.id ++ (oct c.mask ++ rest)) := by simp [eCmd, e]
      rw [← e2]; exact h) hs
  · exact takeCmd_2 c rest p w hI (by simp [e]) (by simp [e]) (chkCmd_2 hc e) hc (by
      have e2 : eCmd c ++ rest = oct c.kind ++ (eID c.id ++ rest) := by simp [eCmd, e]
      rw [← e2]; exact h) hs
end Go.Proofs.YtofnehgjkdcmnaaGreatDoor

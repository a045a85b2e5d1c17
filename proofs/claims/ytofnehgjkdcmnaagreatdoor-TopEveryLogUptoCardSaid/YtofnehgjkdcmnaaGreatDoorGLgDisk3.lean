/- The walks of a disk's Read, Size, Cut, New, Truncate. -/
import Derived.Deep.QuietTactic
import Derived.BigQuiet
import Derived.Test.YtofnehgjkdcmnaaGreatDoorGLgDisk2
namespace Go.Proofs.YtofnehgjkdcmnaaGreatDoor
open Go.RowKit Hg

set_option maxHeartbeats 1000000 in
set_option maxRecDepth 100000 in
theorem read_any (d M n : Nat) (D : LD) (w : World) (h : DiskAt w d M D) (hn : n < 100000000) :
    Calls Tryz.prog 18 #[.pointer (some ⟨d, 0, none⟩), strV (logName n)] w (Ret (.tuple #[strV (fileOr D.files n).s, i64 (findE D n)]) w) := by
  have O1 := Lib.hid (find_any d M n D w h hn)
  generalize fileOr D.files n = f at O1 ⊢
  generalize findE D n = e at O1 ⊢
  clear h
  go_enter Tryz.func18, Tryz.ntmps18
  go_wp2_with fail
  (with_reducible refine O1.out.mono ?_)
  rintro e w1 ⟨rfl, hg1⟩
  have HG1 := Lib.hid hg1
  clear hg1
  go_wp2_with fail
  go_returns
  exact ⟨rfl, HG1.out.alloc _⟩

set_option maxHeartbeats 1000000 in
set_option maxRecDepth 100000 in
theorem size_any (d M n : Nat) (D : LD) (w : World) (h : DiskAt w d M D) (hn : n < 100000000) :
    Calls Tryz.prog 72 #[.pointer (some ⟨d, 0, none⟩), strV (logName n)] w (Ret (.tuple #[i64 ((fileOr D.files n).s.length : Int), i64 ((fileOr D.files n).sure : Int), i64 (findE D n)]) w) := by
  have O1 := Lib.hid (find_any d M n D w h hn)
  generalize fileOr D.files n = f at O1 ⊢
  generalize findE D n = e at O1 ⊢
  clear h
  go_enter Tryz.func72, Tryz.ntmps72
  go_wp2_with fail
  (with_reducible refine O1.out.mono ?_)
  rintro e w1 ⟨rfl, hg1⟩
  have HG1 := Lib.hid hg1
  clear hg1
  go_wp2_with fail
  go_quiet (fail)
  rename_i nq
  go_wp2_with fail
  go_returns
  exact ⟨rfl, (HG1.out.alloc _).drewN nq⟩

theorem disk_apart {w : World} {d M : Nat} {D : LD} (h : DiskAt w d M D) : d ≠ M := fun e => by
  have h1 := h.blk
  obtain ⟨es, clock, hb, _⟩ := h.map
  unfold Blk at h1
  rw [e, hb] at h1; cases h1
theorem cut_disk {w : World} {d M : Nat} {D : LD} (h : DiskAt w d M D) (hd : D.dead = false) (r : Nat) (hr : r ≤ 9223372036854775807) {u : Value} (hu : i64 (r : Int) = u) : DiskAt (w.setCell ⟨d, 1, none⟩ u) d M { files := D.files, room := r, dead := false } := by
  have hg : Chg [d] w (w.setCell ⟨d, 1, none⟩ u) := (Chg.refl [d] w).setCell (.inl (by simp)) u
  have hM := disk_apart h
  refine ⟨?_, map_chg h.map hg (by simpa using Ne.symm hM), h.asc, h.size, hr⟩
  have := h.blk.set_ 1 u
  rw [hd] at this
  rw [hu]; exact this
/-- how many bytes more a disk takes, as it is told -/
def cutR (D : LD) (k : Int) : LD := if D.dead then D else { D with room := k.toNat }
set_option maxHeartbeats 1000000 in
set_option maxRecDepth 100000 in
theorem cut_any (d M : Nat) (k : Int) (D : LD) (w : World) (h : DiskAt w d M D) (hk : k ≤ 9223372036854775807) :
    Calls Tryz.prog 6 #[.pointer (some ⟨d, 0, none⟩), i64 k] w fun e w' => (∃ u, e = .returned u) ∧ DiskAt w' d M (cutR D k) ∧ Chg [d] w w' := by
  have c1 : w.cell? ⟨d, 1, none⟩ = some (i64 (D.room : Int)) := h.blk.cell 1
  have c2 : w.cell? ⟨d, 2, none⟩ = some (.bool D.dead) := h.blk.cell 2
  have f1 := h.blk.frozen 1
  have H0 := Lib.hid h
  clear h
  unfold cutR
  cases hd : D.dead with
  | true =>
    rw [hd] at c2
    go_enter Tryz.func6, Tryz.ntmps6
    go_wp2_with fail
    refine bodyPost_end (results_none rfl _ _ _) rfl ?_
    exact ⟨⟨_, rfl⟩, by have := H0.out; simpa [hd] using this, Chg.refl _ _⟩
  | false =>
    rw [hd] at c2
    go_enter Tryz.func6, Tryz.ntmps6
    go_wp2_with fail
    all_goals (
      refine bodyPost_end (results_none rfl _ _ _) rfl ?_
      have hg : ∀ u, Chg [d] w (w.setCell ⟨d, 1, none⟩ u) := fun u => (Chg.refl [d] w).setCell (.inl (by simp)) u
      have hk2 : i64 ((k.toNat : Nat) : Int) = i64 k ∨ i64 ((k.toNat : Nat) : Int) = i64 0 := by
        rcases Int.le_total 0 k with h | h
        · left; congr 1; omega
        · right; congr 1; omega
      refine ⟨⟨_, rfl⟩, cut_disk H0.out hd k.toNat (by omega) ?_, hg _⟩
      congr 1
      omega)

set_option maxHeartbeats 1000000 in
set_option maxRecDepth 100000 in
theorem diskNew_any (w : World) :
    Calls Tryz.prog 4 #[] w fun e w' => ∃ d M, e = .returned (.pointer (some ⟨d, 0, none⟩)) ∧ DiskAt w' d M ⟨[], 4611686018427387904, false⟩ ∧ Chg [] w w' ∧ w.heap.size ≤ d ∧ w.heap.size ≤ M := by
  have hmm := @run_makeMap Tryz.prog
  go_enter Tryz.func4, Tryz.ntmps4
  go_wp2_with fail
  go_returns
  refine ⟨w.heap.size + 1, w.heap.size, rfl, ⟨?_, ?_, ⟨List.Pairwise.nil, by simp⟩, by simp, by decide⟩, ((Chg.refl [] w).alloc _).alloc _, by omega, Nat.le_refl _⟩
  · have := Blk.new (w.alloc (.map #[] 0)) 48 #[.map (some w.heap.size), i64 4611686018427387904, .bool false]
    simpa using this
  · exact (World.ownsMap_made w Tryz.prog 9 fileR).alloc _
end Go.Proofs.YtofnehgjkdcmnaaGreatDoor

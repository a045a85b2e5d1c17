/- The walk of top's met. -/
import Derived.Deep.QuietTactic
import Derived.BigQuiet
import Derived.Test.YteajdkneiejlaaaGRest
namespace Go.Proofs.Yteajdkneiejlaaa
open Go.RowKit Hg

/-- the world in which two new nodes lie, with a net between them -/
abbrev newW (w : World) : World := (((w.alloc (.cells #[i64 3, i64 0, i64 1, .slice none 0 0, i64 0, .bool false, .bool false] 83)).alloc (.cells #[i64 8, i64 0, i64 1, .slice none 0 0, i64 0, .bool false, .bool false] 83)).alloc (.cells #[i64 2, .slice none 0 0] 63)).alloc (.cells #[ptrV w.heap.size, ptrV (w.heap.size + 1), ptrV (w.heap.size + 1 + 1), .slice none 0 0, .slice none 0 0, .bool false] 41)
theorem blk_at {w : World} {g : Nat} {t : TypeId} {cs : Array Value} (h : w.heap.size = g) : Blk (w.alloc (.cells cs t)) g t cs := by subst h; exact Blk.new w t cs
theorem new_pair (w : World) : PairAt (newW w) [] w.heap.size (w.heap.size + 1 + 1 + 1) w.heap.size (w.heap.size + 1) (w.heap.size + 1 + 1) (.slice none 0 0) (.slice none 0 0) (.slice none 0 0) (.slice none 0 0) (.slice none 0 0) q0 [] [] := by
  have r0 : rowOf (.slice none 0 0) = [] := rfl
  refine ⟨blk_at (by simp), ⟨((blk_at rfl).alloc _).alloc _ |>.alloc _, .inl (World.ownsRow_nil _ _ _ _), by rw [r0]; simp⟩, ⟨((blk_at (by simp)).alloc _).alloc _, .inl (World.ownsRow_nil _ _ _ _), by rw [r0]; simp⟩,
    ⟨(blk_at (by simp)).alloc _, World.ownsRow_nil _ _ _ _, by simp [Value.ownBlock]⟩, ⟨World.ownsRow_nil _ _ _ _, by simp⟩, ⟨World.ownsRow_nil _ _ _ _, by simp⟩, rfl, rfl, by decide, ?_, ?_, by simp; omega⟩
  · intro i j a c hij ha hc q hq hm
    rcases i with _ | _ | _ | _ | _ | _ | _ | i <;> rcases j with _ | _ | _ | _ | _ | _ | _ | j <;> simp [parts7, r0, deep] at ha hc <;> first | omega | (subst ha; subst hc; simp at hq hm <;> omega)
  · intro a ha q hq
    simp only [parts7, r0, deep, List.mem_cons, List.not_mem_nil, or_false, List.flatMap_nil, List.append_nil] at ha
    rcases ha with rfl | rfl | rfl | rfl | rfl | rfl | rfl <;> simp at hq <;> (subst hq; simp <;> omega)

/-- what met leaves -/
def MetR (w : World) (e : Ending) (w' : World) : Prop := ∃ P C0, e = .returned (.tuple #[ptrV P, .bool true]) ∧ PairIn w' [] w.heap.size P C0 (rnd (Qs 3)) ∧ ChgF [] w.heap.size w w'

theorem last_e0 : (rnd (Qs 3)).e0.mine = 3 ∧ (rnd (Qs 3)).e0.yours = 8 := by decide +kernel

set_option maxHeartbeats 2000000 in
set_option maxRecDepth 100000 in
theorem met_any (w : World) : Calls Try.prog 4 #[] w (MetR w) := by
  have R1 := Lib.hid (rest_any (newW w) [] w.heap.size (w.heap.size + 1 + 1 + 1) w.heap.size ⟨_, _, _, _, _, _, _, _, _, new_pair w⟩)
  have N1 := Lib.hid (fun m h0 h1 w => sesNew_any m h0 h1 w)
  have HNC : Hid (ChgF [] w.heap.size w (newW w)) := ChgF.of (S := []) ((((Chg.refl [] w).alloc _).alloc _).alloc _ |>.alloc _) (Nat.le_refl _) (by simp)
  go_enter Try.func4, Try.ntmps4
  go_wp2_with fail
  (with_reducible refine (N1.out 3 (by omega) (by omega) _).mono ?_)
  rintro e w1 ⟨rfl, rfl⟩
  go_wp2_with fail
  (with_reducible refine (N1.out 8 (by omega) (by omega) _).mono ?_)
  rintro e w2 ⟨rfl, rfl⟩
  go_wp2_with fail
  (with_reducible refine (netNew_any _).mono ?_)
  rintro e w3 ⟨rfl, rfl⟩
  go_wp2_with fail
  (with_reducible refine R1.out.mono ?_)
  rintro e w4 ⟨⟨u, rfl⟩, ⟨C1, N, v0, v1, vn, g0, g1, x0, x1, hA⟩, hC4⟩
  have a0 : w4.cell? ⟨w.heap.size, 0, none⟩ = some (i64 (rnd (Qs 3)).e0.mine) := hA.c0.blk.cell 0
  have a1 : w4.cell? ⟨w.heap.size, 1, none⟩ = some (i64 (rnd (Qs 3)).e0.yours) := hA.c0.blk.cell 1
  rw [last_e0.1] at a0
  rw [last_e0.2] at a1
  have E1 := Lib.hid (epochs_any w.heap.size 3 8 w4 a0 a1)
  have HA := Lib.hid (And.intro hA hC4)
  clear R1 N1 a0 a1 hA hC4
  go_wp2_with fail
  (with_reducible refine E1.out.mono ?_)
  rintro e w5 ⟨rfl, hg5⟩
  have hA5 := HA.out.1.new_ hg5
  have hC5 : ChgF [] w.heap.size w w5 := (HNC.out.trans HA.out.2).trans (ChgF.of (S := []) hg5 HA.out.1.base (by simp))
  have z5 : w5.cell? ⟨w.heap.size + 1 + 1 + 1, 5, none⟩ = some (.bool false) := hA5.blk.cell 5
  have HA5 := Lib.hid (And.intro hA5 hC5)
  clear E1 HA hA5 hC5 hg5
  go_wp2_with fail
  go_quiet (fail)
  rename_i nq
  have HF : Hid (PairIn (w5.drewN nq) [] w.heap.size (w.heap.size + 1 + 1 + 1) w.heap.size (rnd (Qs 3)) ∧ ChgF [] w.heap.size w (w5.drewN nq)) :=
    ⟨⟨_, _, _, _, _, _, _, _, _, HA5.out.1.new_ ((Chg.refl [] w5).drewN nq)⟩, HA5.out.2.trans (ChgF.of (S := []) ((Chg.refl [] w5).drewN nq) HA5.out.1.base (by simp))⟩
  go_wp2_with fail
  go_returns
  exact ⟨_, _, rfl, HF.out.1, HF.out.2⟩
end Go.Proofs.Yteajdkneiejlaaa

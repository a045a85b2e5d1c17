/- A range backward over a slice without elements. -/
import Derived.RangeFuncLeaves
import Derived.RangeFuncFrom
import Derived.ControlIn
import Derived.Test.YtofnehgjkdcmnaaGreatDoorGLgSeg
namespace Go.Proofs.YtofnehgjkdcmnaaGreatDoor
open Go.RowKit Hg

set_option maxHeartbeats 1000000 in
set_option maxRecDepth 100000 in
theorem backward_any (A : Option Addr) (c : Nat) (w : World) :
    Calls Tryz.prog 21 #[.slice A 0 c] w fun e w' => ∃ bx, e = .returned (.func (.func 58) #[] #[.pointer (some ⟨bx, 0, none⟩)]) ∧ w'.cell? ⟨bx, 0, none⟩ = some (.slice A 0 c) ∧ Chg [] w w' := by
  go_enter Tryz.func21, Tryz.ntmps21
  go_wp2_with fail
  go_returns
  refine ⟨w.heap.size, rfl, ?_, (Chg.refl [] w).alloc _⟩
  have := (Blk.new w 50 #[.slice A 0 c]).cell 0
  exact this
set_option maxHeartbeats 1000000 in
set_option maxRecDepth 100000 in
theorem backward1_any (A : Option Addr) (c bx : Nat) (y : Value) (w : World) (h : w.cell? ⟨bx, 0, none⟩ = some (.slice A 0 c)) :
    Calls Tryz.prog 58 #[y, .pointer (some ⟨bx, 0, none⟩)] w fun e w' => (∃ v, e = .returned v) ∧ w = w' := by
  go_enter Tryz.func58, Tryz.ntmps58
  go_wp2_with fail
  refine wp_loop_rounds 1 ?_
  rw [rounds_succ]
  go_wp2_with fail
  refine bodyPost_end (results_none rfl _ _ _) rfl ?_
  exact ⟨⟨_, rfl⟩, rfl⟩
theorem calls_of_marks {P : Program} {f : FuncId} {fn : Func} {c : Code} {args : Array Value} {w : World} {R : Ending → World → Prop} (hf : P.funcs[f]? = some fn) (hb : fn.body = some c)
    (h : c.wp P (bodyPostM Fence.wide 9 P fn R) { tmps := args ++ Array.replicate (fn.ntmps - args.size) undef, defers := [] } w) : Calls P f args w R :=
  callsIn_wide.1 (callsIn_of_wp_marks (F := Fence.wide) (n := 9) hf hb trivial (wpIn_wide.2 h))
/-- a range over nothing -/
theorem range_none {g : Operand} {ps : Array Tmp} {assign body : Code} {Q : Exit → Act → World → Prop} {a : Act} {w : World} {A : Option Addr} {c bx : Nat}
    (hg : a.eval g = .func (.func 58) #[] #[.pointer (some ⟨bx, 0, none⟩)]) (hc : w.cell? ⟨bx, 0, none⟩ = some (.slice A 0 c))
    (hdone : ∀ (D : Nat) (W : World), w.heap.size ≤ D → Chg [] w W → W.heap[D]? = some (.deferred (some [])) → Q .normal { a with defers := { target := .collected D, args := #[] } :: a.defers } W) :
    (Code.rangeFunc g ps assign body).wp Tryz.prog Q a w := by
  refine (wpIn_wide (n := 9)).1 ?_
  refine wpIn_rangeFunc_ownF (α := Empty) (F := Fence.wide) (n := 9) rfl (by decide) hg trivial (enters_of Tryz.func58 (by kernel_rfl) rfl) (encs := fun x => nomatch x) (Kp := Below w.heap.size) (S := fun _ => True) (Sp := fun _ => False) (N := 0) (w0 := w)
    (fun l J Jx W hW hJ hJx hY h0 => ?_) belowK_t (belowK_b (Nat.le_refl _)) (Below.refl _ _) (fun x => nomatch x) (fun _ W => Below w.heap.size w W) (fun _ _ _ => False) (ownFrom_below (Nat.le_refl _) (Nat.le_refl _)) (fun _ _ _ _ _ hs _ _ => hs) (Below.refl _ _) (fun x => nomatch x)
    (fun _ x => nomatch x) (fun _ _ x => nomatch x) (fun D xs W hD _ hI hK => hdone D W hD (Chg.of_below hI) hK) (fun _ _ _ _ _ h => h.elim)
  refine callsIn_wide.2 ?_
  have hcW : W.cell? ⟨bx, 0, none⟩ = some (.slice A 0 c) := (hW.cell (p := ⟨bx, 0, none⟩) (cell_lt hc)).trans hc
  refine (backward1_any A c bx _ W hcW).mono fun e w' hq => ⟨hq.1, .inl ⟨[], trivial, hq.2 ▸ h0⟩⟩
end Go.Proofs.YtofnehgjkdcmnaaGreatDoor

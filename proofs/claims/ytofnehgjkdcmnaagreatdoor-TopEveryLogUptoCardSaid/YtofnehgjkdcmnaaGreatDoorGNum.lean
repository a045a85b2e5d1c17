/- The iterator of codec.numbers: the addresses of an entity's numbers that its mask has. -/
import Derived.RangeFuncNested
import Derived.RangeFuncBound
import Derived.RangeFuncCalls
import Derived.RangeFuncLeaves
import Derived.Shelf.Abstract
import Derived.Shelf.RegionOpen
import Derived.WalkKit
import Derived.OwnWalkIn
import Derived.TacticsInMore
import Derived.LoopNIn
import Derived.LoopIn
import Derived.Deep.RegionHeld3
import Derived.BigQuiet
import Derived.Deep.QuietTactic
import Derived.Test.YtofnehgjkdcmnaaGreatDoorGChk
namespace Go.Proofs.YtofnehgjkdcmnaaGreatDoor
open Go.RowKit Go.Shelf Hg
attribute [local go_sem] Oper.semAt_some

/-- bits and cells of an entity's numbers -/
abbrev NumX := { x : Nat // 4 ≤ x ∧ x ≤ 10 }
def numTab : List (Nat × NumX) := [(0, ⟨4, by omega⟩), (0, ⟨5, by omega⟩), (1, ⟨6, by omega⟩), (1, ⟨7, by omega⟩), (2, ⟨8, by omega⟩), (3, ⟨9, by omega⟩), (4, ⟨10, by omega⟩)]
/-- the cells that a mask has, among the first i -/
def offs (m : Int) (i : Nat) : List NumX := ((numTab.take i).filter fun x => bit m x.1).map (·.2)

/-- what a round must keep: all cells outside of S, and the mask -/
def NumKp (S : List Nat) (b : Nat) (W W' : World) : Prop := ∀ (p : Addr) (v : Value), (p.block ∉ S ∨ p = ⟨b, 3, none⟩) → W.cell? p = some v → W'.cell? p = some v

theorem NumKp.refl (S : List Nat) (b : Nat) (W : World) : NumKp S b W W := fun _ _ _ h => h
theorem NumKp.trans {S : List Nat} {b : Nat} {A B C : World} (h : NumKp S b A B) (k : NumKp S b B C) : NumKp S b A C := fun p v hp hv => k p v hp (h p v hp hv)

/-- the entries of the table in memory -/
def EntAt (w : World) (E b : Nat) : Prop := ∀ k t x, numTab[k]? = some (t, x) → w.cell? ⟨E, k * 2, none⟩ = some (.int .i64 ((2 ^ t : Nat) : Int)) ∧ w.cell? ⟨E, k * 2 + 1, none⟩ = some (.pointer (some ⟨b, x.1, none⟩))

theorem entAt_of {w : World} {E b : Nat} {T : TypeId} (h : Blk w E T #[.int .i64 1, .pointer (some ⟨b, 4, none⟩), .int .i64 1, .pointer (some ⟨b, 5, none⟩), .int .i64 2, .pointer (some ⟨b, 6, none⟩), .int .i64 2, .pointer (some ⟨b, 7, none⟩), .int .i64 4, .pointer (some ⟨b, 8, none⟩), .int .i64 8, .pointer (some ⟨b, 9, none⟩), .int .i64 16, .pointer (some ⟨b, 10, none⟩)]) : EntAt w E b := by
  intro k t x hk
  have c := h.cell
  match k, hk with
  | 0, hk => simp [numTab] at hk; obtain ⟨rfl, rfl⟩ := hk; exact ⟨c 0, c 1⟩
  | 1, hk => simp [numTab] at hk; obtain ⟨rfl, rfl⟩ := hk; exact ⟨c 2, c 3⟩
  | 2, hk => simp [numTab] at hk; obtain ⟨rfl, rfl⟩ := hk; exact ⟨c 4, c 5⟩
  | 3, hk => simp [numTab] at hk; obtain ⟨rfl, rfl⟩ := hk; exact ⟨c 6, c 7⟩
  | 4, hk => simp [numTab] at hk; obtain ⟨rfl, rfl⟩ := hk; exact ⟨c 8, c 9⟩
  | 5, hk => simp [numTab] at hk; obtain ⟨rfl, rfl⟩ := hk; exact ⟨c 10, c 11⟩
  | 6, hk => simp [numTab] at hk; obtain ⟨rfl, rfl⟩ := hk; exact ⟨c 12, c 13⟩
  | k + 7, hk => simp [numTab] at hk
theorem EntAt.chg {w w' : World} {E b : Nat} (h : EntAt w E b) (hg : Chg [] w w') : EntAt w' E b := fun k t x hk =>
  have ⟨a, c⟩ := h k t x hk
  ⟨(hg.cell (cell_lt a) (by simp)).trans a, (hg.cell (cell_lt c) (by simp)).trans c⟩
theorem EntAt.kp {w w' : World} {S : List Nat} {E b : Nat} (h : EntAt w E b) (hg : NumKp S b w w') (hE : E ∉ S) : EntAt w' E b := fun k t x hk =>
  have ⟨a, c⟩ := h k t x hk
  ⟨hg _ _ (.inl hE) a, hg _ _ (.inl hE) c⟩
theorem numTab_some {k : Nat} (h : k < 7) : ∃ t x, numTab[k]? = some (t, x) ∧ t < 5 := by
  match k, h with
  | 0, _ => exact ⟨_, _, rfl, by omega⟩
  | 1, _ => exact ⟨_, _, rfl, by omega⟩
  | 2, _ => exact ⟨_, _, rfl, by omega⟩
  | 3, _ => exact ⟨_, _, rfl, by omega⟩
  | 4, _ => exact ⟨_, _, rfl, by omega⟩
  | 5, _ => exact ⟨_, _, rfl, by omega⟩
  | 6, _ => exact ⟨_, _, rfl, by omega⟩
theorem offs_succ (m : Int) {k t : Nat} {x : NumX} (h : numTab[k]? = some (t, x)) : offs m (k + 1) = offs m k ++ (if bit m t then [x] else []) := by
  have e : numTab.take (k + 1) = numTab.take k ++ [(t, x)] := by rw [List.take_add_one, h]; rfl
  unfold offs
  rw [e, List.filter_append, List.map_append]
  congr 1
  cases hb : bit m t <;> simp [hb]
theorem offs_len (m : Int) (k : Nat) : (offs m k).length < 8 := by
  unfold offs
  rw [List.length_map]
  have := List.length_filter_le (fun x : Nat × NumX => bit m x.1) (numTab.take k)
  have : (numTab.take k).length ≤ 7 := by rw [List.length_take]; exact Nat.min_le_right _ _
  omega
theorem offs_le (m : Int) (k : Nat) : (offs m k).length ≤ (offs m 7).length := by
  unfold offs
  rw [List.length_map, List.length_map]
  exact (List.Sublist.filter _ (by show (numTab.take k).Sublist numTab; exact List.take_sublist _ _)).length_le
theorem and_ne0 : ∀ (a : Fin 32) (k : Fin 5), (bits BinOp.and IntKind.i64 (a.val : Int) ((2 ^ k.val : Nat) : Int) != 0) = bit (a.val : Int) k.val := by decide +kernel
theorem and_ne {m : Int} (h0 : 0 ≤ m) (h1 : m ≤ 31) {k : Nat} (hk : k < 5) : (bits BinOp.and IntKind.i64 m ((2 ^ k : Nat) : Int) != 0) = bit m k := by
  have := and_ne0 ⟨m.toNat, by omega⟩ ⟨k, hk⟩
  rw [show ((m.toNat : Nat) : Int) = m by omega] at this
  exact this

/-- what a round has answered -/
def NumOut (a b : Prop) : Bool → Prop
  | true => a
  | false => b

set_option maxHeartbeats 2000000 in
set_option maxRecDepth 100000 in
theorem num_stops (S : List Nat) (pb b : Nat) (m : Int) (w : World) (hcap : w.cell? ⟨pb, 0, none⟩ = some (.pointer (some ⟨b, 0, none⟩))) (hpb : pb ∉ S) (hmask : w.cell? ⟨b, 3, none⟩ = some (i64 m)) (hS : ∀ s ∈ S, s < w.heap.size) (h0 : 0 ≤ m) (h1 : m ≤ 31) (n : Nat) (hn : 1 ≤ n) :
    SeqStopsK Fence.wide n Tryz.prog 133 #[.pointer (some ⟨pb, 0, none⟩)] (fun x : NumX => #[.pointer (some ⟨b, x.1, none⟩)]) (NumKp S b) (fun xs => xs = offs m 7) (fun _pre => True) (offs m 7).length w := by
  intro l J Jx W hW hJ hJx hY h0'
  refine callsIn_of_wp Tryz.func133 rfl trivial ?_ rfl
  have hcap1 : W.cell? ⟨pb, 0, none⟩ = some (.pointer (some ⟨b, 0, none⟩)) := (hW.cell (p := ⟨pb, 0, none⟩) (cell_lt hcap)).trans hcap
  have hmask1 : W.cell? ⟨b, 3, none⟩ = some (i64 m) := (hW.cell (p := ⟨b, 3, none⟩) (cell_lt hmask)).trans hmask
  simp only [Tryz.ntmps133, List.size_toArray, List.length_cons, List.length_nil, Nat.reduceAdd, Nat.reduceSub, Array.replicate_succ, Array.replicate_zero, List.push_toArray, List.append_toArray, List.nil_append, List.cons_append]
  refine wpIn_seq_k (fun K hK => wpIn_wide.2 ?_)
  go_region_held3 (fun w' => w'.cell? ⟨pb, 0, none⟩ = some (.pointer (some ⟨b, 0, none⟩))) (first | go_keep | (simp only [cells_keep ((Chg.refl [] _).alloc _) (b := pb) (by simpa using cell_lt hcap1) (by simp)]; go_keep)) (fail)
  have hB := (Blk.new W 195 #[.int .i64 1, .pointer (some ⟨b, 4, none⟩), .int .i64 1, .pointer (some ⟨b, 5, none⟩), .int .i64 2, .pointer (some ⟨b, 6, none⟩), .int .i64 2, .pointer (some ⟨b, 7, none⟩), .int .i64 4, .pointer (some ⟨b, 8, none⟩), .int .i64 8, .pointer (some ⟨b, 9, none⟩), .int .i64 16, .pointer (some ⟨b, 10, none⟩)]).drew
  have hJ0 : J [] (W.alloc (.cells #[.int .i64 1, .pointer (some ⟨b, 4, none⟩), .int .i64 1, .pointer (some ⟨b, 5, none⟩), .int .i64 2, .pointer (some ⟨b, 6, none⟩), .int .i64 2, .pointer (some ⟨b, 7, none⟩), .int .i64 4, .pointer (some ⟨b, 8, none⟩), .int .i64 8, .pointer (some ⟨b, 9, none⟩), .int .i64 16, .pointer (some ⟨b, 10, none⟩)] 195)).drew := hJ _ W _ none h0' ⟨rfl, rfl, rfl, by simp [World.drew], fun k hk _ => Below.heap_alloc W _ k hk⟩ (fun r e => by cases e)
  have hg1 : Chg [] W (W.alloc (.cells #[.int .i64 1, .pointer (some ⟨b, 4, none⟩), .int .i64 1, .pointer (some ⟨b, 5, none⟩), .int .i64 2, .pointer (some ⟨b, 6, none⟩), .int .i64 2, .pointer (some ⟨b, 7, none⟩), .int .i64 4, .pointer (some ⟨b, 8, none⟩), .int .i64 8, .pointer (some ⟨b, 9, none⟩), .int .i64 16, .pointer (some ⟨b, 10, none⟩)] 195)).drew := ((Chg.refl [] W).alloc _).drew
  have hcap2 := (hg1.cell (p := ⟨pb, 0, none⟩) (cell_lt hcap1) (by simp)).trans hcap1
  have hmask2 := (hg1.cell (p := ⟨b, 3, none⟩) (cell_lt hmask1) (by simp)).trans hmask1
  have hSz := hg1.size
  show K _ _
  refine hK _ _ ?_
  clear hK K
  generalize (W.alloc (.cells #[.int .i64 1, .pointer (some ⟨b, 4, none⟩), .int .i64 1, .pointer (some ⟨b, 5, none⟩), .int .i64 2, .pointer (some ⟨b, 6, none⟩), .int .i64 2, .pointer (some ⟨b, 7, none⟩), .int .i64 4, .pointer (some ⟨b, 8, none⟩), .int .i64 8, .pointer (some ⟨b, 9, none⟩), .int .i64 16, .pointer (some ⟨b, 10, none⟩)] 195)).drew = W1 at hB hJ0 hcap2 hmask2 hSz ⊢
  clear hg1 hcap1 hmask1 h0' hcap hmask
  have hE1 := entAt_of hB
  gi_wp2_with fail
  gi_loopw [4, 35] (fun _ i wr => ∃ k : Nat, k ≤ 7 ∧ i = .int .i64 k ∧ J (offs m k) wr ∧ EntAt wr W.heap.size b ∧ wr.cell? ⟨pb, 0, none⟩ = some (.pointer (some ⟨b, 0, none⟩)) ∧ wr.cell? ⟨b, 3, none⟩ = some (i64 m))
    (fun _ i _ => 7 - (intOf i).toNat)
  case atStart => exact ⟨0, by omega, rfl, hJ0, hE1, hcap2, hmask2⟩
  case round =>
    obtain ⟨k, hk, rfl, hJr, hEr, hcr, hmr⟩ := hrel
    clear hJ0 hB hcap2 hmask2 hE1
    rcases Nat.lt_or_ge k 7 with hlt | hge
    · obtain ⟨t, ⟨x, hx⟩, htx, ht5⟩ := numTab_some hlt
      obtain ⟨c0, c1⟩ := hEr k t ⟨x, hx⟩ htx
      dsimp only at c1
      have hbt := and_bit' h0 h1 t ht5 ((2 ^ t : Nat) : Int) rfl
      have hbb0 : (bits BinOp.and IntKind.i64 m ((2 ^ t : Nat) : Int) != 0) = bit m t := and_ne h0 h1 ht5
      have hsn := offs_succ m htx
      clear hbt
      have hSW : W.heap.size ∉ S := fun h => by have := hS _ h; have := hW.size; omega
      generalize ((2 ^ t : Nat) : Int) = cB at c0 hbb0
      have hg : Chg [] wr (wr.alloc (.cells #[.int .i64 cB, .pointer (some ⟨b, x, none⟩)] 195)) := (Chg.refl [] wr).alloc _
      have hJx' : ∀ q, J (offs m k) ((wr.alloc (.cells #[.int .i64 cB, .pointer (some ⟨b, x, none⟩)] 195)).drewN q) := fun q => hJ _ wr _ none hJr ⟨rfl, rfl, rfl, by simp [World.drewN], fun k hk _ => Below.heap_alloc wr _ k hk⟩ (fun r e => by cases e)
      have x0 : (wr.alloc (.cells #[.int .i64 cB, .pointer (some ⟨b, x, none⟩)] 195)).cell? ⟨wr.heap.size, 0, none⟩ = some (.int .i64 cB) := (Blk.new wr _ _).cell 0
      have x1 : (wr.alloc (.cells #[.int .i64 cB, .pointer (some ⟨b, x, none⟩)] 195)).cell? ⟨wr.heap.size, 1, none⟩ = some (.pointer (some ⟨b, x, none⟩)) := (Blk.new wr _ _).cell 1
      have hcx := (hg.cell (p := ⟨pb, 0, none⟩) (cell_lt hcr) (by simp)).trans hcr
      have hmx := (hg.cell (p := ⟨b, 3, none⟩) (cell_lt hmr) (by simp)).trans hmr
      have hEx := hEr.chg hg
      have hlt2 : (k : Int) < 7 := by omega
      cases hbit : bit m t with
      | true =>
        rw [hbit] at hbb0 hsn
        have hlen : (offs m k).length < (offs m 7).length := by
          have h1 := offs_le m (k + 1)
          rw [hsn] at h1; simp at h1; omega
        have HSN := Lib.hid hsn
        clear hsn hbit htx
        gi_wp2_with fail
        generalize wr.alloc (.cells #[.int .i64 cB, .pointer (some ⟨b, x, none⟩)] 195) = Wx at hg hJx' x0 x1 hcx hmx hEx ⊢
        clear c0 c1 hcr hmr hEr hJr
        obtain ⟨fn, tmps, assign, body, hy, hR⟩ := hY _ ⟨x, hx⟩ Wx.drew (hJx' 1) hlen
        dsimp only at hy hR
        clear hJx'
        have hR2 := hR.mono (R' := fun e W' => ∃ t : Bool, e = .returned (.bool t) ∧ NumOut (J (offs m k ++ [⟨x, hx⟩]) W' ∧ NumKp S b Wx.drew W') (Jx (offs m k ++ [⟨x, hx⟩]) W') t) (by
          rintro e W' (⟨rfl, h⟩ | ⟨rfl, h⟩)
          · exact ⟨true, rfl, h⟩
          · exact ⟨false, rfl, h⟩)
        have HR := Lib.hid hR2
        clear hR hR2 hY
        gi_region_with (refine HR.out.mono ?_; rintro e W2 ⟨t, rfl, ho⟩)
        all_goals (
          cases t with
          | true =>
            obtain ⟨hJ2, hk2⟩ := ho
            have hE2 := hEx.kp hk2 hSW
            have hc2 := hk2 ⟨pb, 0, none⟩ _ (.inl hpb) hcx
            have hm2 := hk2 ⟨b, 3, none⟩ _ (.inr rfl) hmx
            have hJ3 : J (offs m (k + 1)) W2 := by rw [HSN.out]; exact hJ2
            gi_wp2_with fail
            exact ⟨⟨k + 1, by omega, by go_num, hJ3, hE2, hc2, hm2⟩, by simp [intOf]; omega⟩
          | false =>
            gi_wp2_with fail
            refine bodyPost_ret (results_none rfl _ _ _) rfl ?_
            exact ⟨⟨_, rfl⟩, .inr ⟨_, trivial, ho⟩⟩)
      | false =>
        rw [hbit] at hbb0 hsn
        have HSN := Lib.hid hsn
        clear hsn hbit htx hY
        gi_wp2_with fail
        generalize wr.alloc (.cells #[.int .i64 cB, .pointer (some ⟨b, x, none⟩)] 195) = Wx at hg hJx' x0 x1 hcx hmx hEx ⊢
        clear c0 c1 hcr hmr hEr hJr
        refine wpIn_wide.2 ?_
        go_quiet (fail)
        rename_i nq
        have hJ3 : J (offs m (k + 1)) (Wx.drewN nq) := by
          have e : offs m (k + 1) = offs m k := by rw [HSN.out]; simp
          rw [e]; exact hJx' nq
        clear hJx'
        gi_wp2_with fail
        exact ⟨⟨k + 1, by omega, by go_num, hJ3, hEx, hcx, hmx⟩, by simp [intOf]; omega⟩
    · have hk7 : k = 7 := by omega
      subst hk7
      gi_wp2_with fail
      go_end0
      exact ⟨⟨_, rfl⟩, .inl ⟨_, rfl, hJr⟩⟩
end Go.Proofs.YtofnehgjkdcmnaaGreatDoor

/- The walk of net.Send, of one packet between the two nodes. -/
import Derived.Deep.AppendLies
import Derived.Deep.RegionHeld3
import Derived.Deep.RegionLaw
import Derived.Test.YteajdkneiejlaaaGNet
namespace Go.Proofs.Yteajdkneiejlaaa
open Go.RowKit Hg

set_option maxHeartbeats 1000000 in
set_option maxRecDepth 100000 in
theorem pkIndex_any (N : Nat) (k : Int) (t : Bytes) (A : Option Addr) (c : Nat) (w : World) (hk : k = 0 ∨ k = 1) (ht : t.length ≤ 65536) (h1 : w.cell? ⟨N, 0, none⟩ = some (i64 2)) (hr : Rd w 3 A 1 [i64 k, i64 (1 - k), strV t]) :
    Calls Try.prog 69 #[.slice A 1 c, .func (.func 45) #[.pointer (some ⟨N, 0, none⟩)] #[]] w (Ret (.int .i64 (-1)) w) := by
  obtain ⟨ad, rfl, hc⟩ := hr.2 (by omega)
  have hN := cell_lt h1
  have c0 : w.cell? ad = some (i64 k) := by have := hc 0 _ rfl; simpa [Addr.add] using this
  have c1 : w.cell? ⟨ad.block, ad.off + 1, none⟩ = some (i64 (1 - k)) := hc 1 _ rfl
  have c2 : w.cell? ⟨ad.block, ad.off + 2, none⟩ = some (strV t) := hc 2 _ rfl
  have W1 := Lib.hid (fun w (h : w.cell? ⟨N, 0, none⟩ = some (i64 2)) => wrong_any N k t w hk ht h)
  have H1 := Lib.hid h1
  clear hr hc hk h1
  generalize 1 - k = k' at c1 W1
  go_enter Try.func69, Try.ntmps69
  go_wp2_with fail
  go_loopw [5, 8] (fun _ i wr => (i = .int .i64 0 ∧ w = wr) ∨ (i = .int .i64 1 ∧ Chg [] w wr))
    (fun _ i _ => 1 - (intOf i).toNat)
  case atStart => exact .inl ⟨rfl, rfl⟩
  case round =>
    rcases hrel with ⟨rfl, rfl⟩ | ⟨rfl, hC⟩
    · go_wp2_with (go_at_call 45; refine (W1.out _ H1.out).mono ?_; rintro e w1 ⟨rfl, hg1⟩)
      go_roundw
      case rel => exact .inr ⟨by go_num, hg1⟩
      case measure => simp [intOf]
    · go_wp2_with fail
      go_ret
      exact ⟨rfl, hC⟩

set_option maxHeartbeats 1000000 in
theorem pkContains_any (N : Nat) (k : Int) (t : Bytes) (A : Option Addr) (c : Nat) (w : World) (hk : k = 0 ∨ k = 1) (ht : t.length ≤ 65536) (h1 : w.cell? ⟨N, 0, none⟩ = some (i64 2)) (hr : Rd w 3 A 1 [i64 k, i64 (1 - k), strV t]) :
    Calls Try.prog 44 #[.slice A 1 c, .func (.func 45) #[.pointer (some ⟨N, 0, none⟩)] #[]] w (Ret (.bool false) w) := by
  have I1 := Lib.hid (pkIndex_any N k t A c w hk ht h1 hr)
  clear hr hk h1
  go_enter Try.func44, Try.ntmps44
  go_wp2_with (go_at_call 69; refine I1.out.mono ?_; rintro e w1 ⟨rfl, hg1⟩)
  go_ret
  exact ⟨rfl, hg1⟩

/-- append to a row of the own, as one step of a region that draws -/
theorem step_append_own' {P : Program} {w : World} {ops : Array Oper} {o : Oper} {a : Act} {K : Act → World → Prop} {Q : Exit → Act → World → Prop} {E : Prop} (hgd : o.guard = none) (s x : Operand) (t : TypeId)
    (ho : o.op = .call { callee := .builtin .append, args := #[s, x], argTypes := #[t, t] })
    (base : Nat) (e : TypeId) (i : TypeInfo) (z : Value) (size bytes : Nat) (ht : P.underlying t = some (.slice e)) (hi : P.info? e = some i) (hz : i.zero = some z)
    (hsize : i.size = size) (hby : i.bytes = bytes) (hzs : z.cells.size = size) (hsz : 0 < size)
    (v : Value) (n : Nat) (xs : List Value) (hs : a.eval s = v) (hown : w.ownsRow base e size v n xs)
    (ad : Addr) (m c : Nat) (news : List Value) (hx : a.eval x = .slice (some ad) m c) (hl : news.length = m * size) (hnews : ∀ j u, news[j]? = some u → w.cell? (ad.add j) = some u) (h1 : ∀ u ∈ news, u.oneCell' = true)
    (h63 : n + m ≤ maxLen) (hbytes : (n + m) * bytes ≤ 140737488355328) (hbase : base ≤ w.heap.size)
    (h : ∀ v' w', w'.ownsRow base e size v' (n + m) (xs ++ news) → w.grownBy w' v.ownBlock → (v'.ownBlock = v.ownBlock ∨ v'.ownBlock = some w.heap.size) → K (a.put o.dst v') w') :
    if Region.wanted o (yielded ops a.tmps) = true then Oper.wp P o a w K Q else E := by
  have hw : Region.wanted o (yielded ops a.tmps) = true := by simp [Region.wanted, hgd]
  rw [if_pos hw]
  obtain ⟨v', w', hr, h2, h3, _, h5⟩ := run_append_own_at (P := P) w base t o.type e i z size bytes ht hi hz hsize hby hzs hsz v n xs hown ad m c news hl hnews h1 h63 hbytes hbase
  unfold Oper.wp execOp
  simp only [ho, resolve, invoke, builtin, Sem.run_bind, Sem.run_pure, Result.andThen_ok, List.map_toArray, List.map_cons, List.map_nil, hs, hx, hr]
  exact h v' w' h2 h3 h5

theorem own_slice' {w : World} {base : Nat} {e : TypeId} {size n : Nat} {v : Value} {xs : List Value} (h : w.ownsRow base e size v n xs) : ∃ A c, v = .slice A n c := by
  rcases h.2 with ⟨rfl, rfl⟩ | ⟨g, cap, cur, rfl, _⟩
  · exact ⟨_, _, rfl⟩
  · exact ⟨_, _, rfl⟩
theorem own_ne_blk {w : World} {base : Nat} {e : TypeId} {size n : Nat} {v : Value} {xs : List Value} (h : w.ownsRow base e size v n xs) {g : Nat} {t : TypeId} {cs : Array Value} (hb : Blk w g t cs) (hne : t ≠ e) : v.ownBlock ≠ some g := by
  intro ho
  rcases h.2 with ⟨rfl, _⟩ | ⟨g', cap, cur, rfl, _, hgg, _⟩
  · cases ho
  · have : g' = g := by simpa [Value.ownBlock] using ho
    subst this
    unfold Blk at hb
    rw [hgg] at hb
    injection hb with hb
    injection hb with _ ht
    exact hne ht.symm
theorem infoPk : (Try.prog.info? 45).map (fun i => (i.zero, i.size, i.bytes)) = some (some (.agg #[i64 0, i64 0, .string ⟨#[]⟩]), 3, 32) := by kernel_rfl

/-- the block of a row of the own -/
def rowOf (v : Value) : List Nat := v.ownBlock.toList

/-- the new row lies where the old one lay, or is new -/
def Lies (w : World) (v v' : Value) : Prop := ∀ q, q ∈ rowOf v' → q ∈ rowOf v ∨ w.heap.size ≤ q
theorem Lies.of_at {w w1 : World} {v v' : Value} (h : v'.ownBlock = v.ownBlock ∨ v'.ownBlock = some w1.heap.size) (hs : w.heap.size ≤ w1.heap.size) : Lies w v v' := by
  intro q hq
  unfold rowOf at hq ⊢
  rcases h with h | h
  · rw [h] at hq; exact .inl hq
  · rw [h] at hq; simp at hq; right; omega

/-- the net at block N with this row of packets' cells -/
def NetAt (w : World) (N base n : Nat) (v : Value) (xs : List Value) : Prop := Blk w N 63 #[i64 2, v] ∧ w.ownsRow base 45 3 v n xs ∧ v.ownBlock ≠ some N

set_option maxHeartbeats 2000000 in
set_option maxRecDepth 100000 in
theorem send_any (N base n : Nat) (v : Value) (xs : List Value) (k : Int) (t : Bytes) (A : Option Addr) (w : World) (hN : NetAt w N base n v xs) (hb : base ≤ w.heap.size) (hn : n < 4096) (hk : k = 0 ∨ k = 1) (ht : t.length ≤ 65536) (hr : Rd w 3 A 1 [i64 k, i64 (1 - k), strV t]) (hA : ∀ q ∈ blkOf A, v.ownBlock ≠ some q ∧ q ≠ N) :
    Calls Try.prog 22 #[.pointer (some ⟨N, 0, none⟩), .slice A 1 1] w fun e w' =>
      e = .returned (.tuple #[.int .i64 0, .int .i64 0]) ∧ ∃ v', NetAt w' N base (n + 1) v' (xs ++ [i64 k, i64 (1 - k), strV t]) ∧ Lies w v v' ∧ Chg (N :: rowOf v) w w' := by
  obtain ⟨i0, hi, hz0, hz1, hz2⟩ := info_parts infoPk
  obtain ⟨hB, hown, hne⟩ := hN
  obtain ⟨B, c, rfl⟩ : ∃ B c, v = .slice B n c := by
    rcases hown.2 with ⟨rfl, rfl⟩ | ⟨g, cap, cur, rfl, _⟩
    · exact ⟨_, _, rfl⟩
    · exact ⟨_, _, rfl⟩
  have c0 : w.cell? ⟨N, 0, none⟩ = some (i64 2) := hB.cell 0
  have c1 : w.cell? ⟨N, 1, none⟩ = some (.slice B n c) := hB.cell 1
  have I1 := Lib.hid (pkContains_any N k t A 1 w hk ht c0 hr)
  have hmin : min (1 : Int) (4096 - (n : Int)) = 1 := by omega
  have hNl := hB.lt
  go_enter Try.func22, Try.ntmps22
  go_wp2_with (go_at_call 44; refine I1.out.mono ?_; rintro e w1 ⟨rfl, hg1⟩; have k1 := cells_keep hg1 hNl (by simp))
  obtain ⟨ad, rfl, hcell⟩ := hr.2 (by omega)
  have hown1 : w1.drew.ownsRow base 45 3 (.slice B n c) n xs := own_chg hown hg1.drew (by simp)
  have hB1 : Blk w1 N 63 #[i64 2, .slice B n c] := hB.chg hg1 (by simp)
  have hnews : ∀ j u, [i64 k, i64 (1 - k), strV t][j]? = some u → w1.drew.cell? (ad.add j) = some u := (hr.new_ hg1).2 (by omega) |>.elim fun ad' h => by
    obtain ⟨e, hc⟩ := h
    cases e
    exact hc
  have c11 : w1.cell? ⟨N, 1, none⟩ = some (.slice B n c) := hB1.cell 1
  clear k1 hr hcell c0 c1 I1 hk hmin
  go_region_law (refine step_append_own' (by rfl) (.tmp 28) (.tmp 31) 61 rfl base 45 i0 _ 3 32 Try.underlying61 hi hz0 hz1 hz2 rfl (by decide) (.slice B n c) n xs rfl hown1 ad 1 1 [i64 k, i64 (1 - k), strV t] rfl rfl hnews (by simp [Value.oneCell']) (by unfold maxLen; omega) (by omega) (by have := hg1.size; show base ≤ w1.heap.size; omega) ?_; intro v2 w2 hown2 hgrow hat; obtain ⟨B2, c2, rfl⟩ := own_slice' hown2; have hB2 : Blk w2 N 63 #[i64 2, .slice B n c] := ((hgrow.block N hB1.lt (fun e => hne e.symm)).trans hB1); have q1 : w2.cell? ⟨N, 1, none⟩ = some (.slice B n c) := hB2.cell 1; have f1 := hB2.frozen 1)
  all_goals (
    have hS : Chg (rowOf (.slice B n c)) w1.drew w2 := Chg.of_grown hgrow (fun q e => .inl (by rw [rowOf, e]; simp))
    have hne2 : (Value.slice B2 (n + 1) c2).ownBlock ≠ some N := own_ne_blk hown2 hB2 (by decide)
    go_wp2_with fail
    go_returns
    refine ⟨by simp, .slice B2 (n + 1) c2, ⟨hB2.set_ 1 _, own_chg hown2 ((Chg.refl [N] w2).setCell (p := ⟨N, 1, none⟩) (.inl (by simp)) _) (by intro q hq hm; simp at hm; subst hm; exact hne2 hq), hne2⟩, Lies.of_at hat (by have := hg1.size; exact this), ?_⟩
    exact (((hg1.drew.mono (by simp)).then_ hS (by intro i hi hm; exact List.mem_cons_of_mem _ hm))).setCell (.inl (by simp)) _)
set_option maxHeartbeats 2000000 in
set_option maxRecDepth 100000 in
/-- the net is full: nothing is sent -/
theorem send_full (N base n : Nat) (v : Value) (xs : List Value) (k : Int) (t : Bytes) (A : Option Addr) (w : World) (hN : NetAt w N base n v xs) (hb : base ≤ w.heap.size) (hn : n = 4096) (hk : k = 0 ∨ k = 1) (ht : t.length ≤ 65536) (hr : Rd w 3 A 1 [i64 k, i64 (1 - k), strV t]) (hA : ∀ q ∈ blkOf A, v.ownBlock ≠ some q ∧ q ≠ N) :
    Calls Try.prog 22 #[.pointer (some ⟨N, 0, none⟩), .slice A 1 1] w fun e w' =>
      e = .returned (.tuple #[.int .i64 1, .int .i64 0]) ∧ ∃ v', NetAt w' N base n v' xs ∧ Lies w v v' ∧ Chg (N :: rowOf v) w w' := by
  obtain ⟨i0, hi, hz0, hz1, hz2⟩ := info_parts infoPk
  obtain ⟨hB, hown, hne⟩ := hN
  obtain ⟨B, c, rfl⟩ : ∃ B c, v = .slice B n c := by
    rcases hown.2 with ⟨rfl, rfl⟩ | ⟨g, cap, cur, rfl, _⟩
    · exact ⟨_, _, rfl⟩
    · exact ⟨_, _, rfl⟩
  have c0 : w.cell? ⟨N, 0, none⟩ = some (i64 2) := hB.cell 0
  have c1 : w.cell? ⟨N, 1, none⟩ = some (.slice B n c) := hB.cell 1
  have I1 := Lib.hid (pkContains_any N k t A 1 w hk ht c0 hr)
  have hz : (4096 - (n : Int)) = 0 := by omega
  have HN2 : Hid (n ≤ 4096) := by unfold Hid; omega
  clear hn
  have hNl := hB.lt
  go_enter Try.func22, Try.ntmps22
  go_wp2_with (go_at_call 44; refine I1.out.mono ?_; rintro e w1 ⟨rfl, hg1⟩; have k1 := cells_keep hg1 hNl (by simp))
  obtain ⟨ad, rfl, hcell⟩ := hr.2 (by omega)
  have hown1 : w1.drew.ownsRow base 45 3 (.slice B n c) n xs := own_chg hown hg1.drew (by simp)
  have hB1 : Blk w1 N 63 #[i64 2, .slice B n c] := hB.chg hg1 (by simp)
  have hnews : ∀ j u, [i64 k, i64 (1 - k), strV t][j]? = some u → w1.drew.cell? (ad.add j) = some u := (hr.new_ hg1).2 (by omega) |>.elim fun ad' h => by
    obtain ⟨e, hc⟩ := h
    cases e
    exact hc
  have c11 : w1.cell? ⟨N, 1, none⟩ = some (.slice B n c) := hB1.cell 1
  clear k1 hr hcell c0 c1 I1 hk hz
  go_region_law (refine step_append_own' (by rfl) (.tmp 28) (.tmp 31) 61 rfl base 45 i0 _ 3 32 Try.underlying61 hi hz0 hz1 hz2 rfl (by decide) (.slice B n c) n xs rfl hown1 ad 0 1 [] rfl rfl (by intro j u h; simp at h) (by simp) (by have := HN2.out; unfold maxLen; omega) (by have := HN2.out; omega) (by have := hg1.size; show base ≤ w1.heap.size; omega) ?_; intro v2 w2 hown2 hgrow hat; rw [Nat.add_zero, List.append_nil] at hown2; obtain ⟨B2, c2, rfl⟩ := own_slice' hown2; have hB2 : Blk w2 N 63 #[i64 2, .slice B n c] := ((hgrow.block N hB1.lt (fun e => hne e.symm)).trans hB1); have q1 : w2.cell? ⟨N, 1, none⟩ = some (.slice B n c) := hB2.cell 1; have f1 := hB2.frozen 1)
  all_goals (
    have hS : Chg (rowOf (.slice B n c)) w1.drew w2 := Chg.of_grown hgrow (fun q e => .inl (by rw [rowOf, e]; simp))
    have hne2 : (Value.slice B2 n c2).ownBlock ≠ some N := own_ne_blk hown2 hB2 (by decide)
    go_wp2_with fail
    go_returns
    refine ⟨by simp, (.slice B2 n c2), ⟨hB2.set_ 1 _, own_chg hown2 ((Chg.refl [N] w2).setCell (p := ⟨N, 1, none⟩) (.inl (by simp)) _) (by intro q hq hm; simp at hm; subst hm; exact hne2 hq), hne2⟩, Lies.of_at hat (by have := hg1.size; exact this), ?_⟩
    exact (((hg1.drew.mono (by simp)).then_ hS (by intro i hi hm; exact List.mem_cons_of_mem _ hm))).setCell (.inl (by simp)) _)
end Go.Proofs.Yteajdkneiejlaaa

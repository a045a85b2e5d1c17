/- The walk of Posts. -/
import Derived.Deep.QuietTactic
import Derived.BigQuiet
import Derived.IntWalk
import Derived.Test.YteajdkneiejlaaaGWait
namespace Go.Proofs.Yteajdkneiejlaaa
open Go.RowKit Hg

/-- the text of a post -/
def tb : Option Msg → Bytes
  | none => []
  | some m => eMsg m
/-- a post's cells -/
abbrev postC (p : Hg.Post Msg) : List Value := [i64 p.mine, i64 p.yours, i64 p.ack, i64 p.seq, strV (tb p.text)]
theorem infoPost : (Try.prog.info? 68).map (fun i => (i.zero, i.size, i.bytes)) = some (some (.agg #[i64 0, i64 0, i64 0, i64 0, .string ⟨#[]⟩]), 5, 48) := by kernel_rfl

theorem own_blkOf {w : World} {base : Nat} {e : TypeId} {size n c : Nat} {A : Option Addr} {xs : List Value} (h : w.ownsRow base e size (.slice A n c) n xs) : ∀ q, q ∈ blkOf A → base ≤ q ∧ q < w.heap.size := by
  intro q hq
  have := h.lt
  cases A with
  | none => simp [blkOf] at hq
  | some a => simp [blkOf] at hq; exact this q (by rw [hq]; rfl)

/-- what Posts leaves -/
def PostsR (w : World) (C base : Nat) (v : Value) (c : Hg.Chan Msg) (l : List (Hg.Post Msg)) (e : Ending) (w' : World) : Prop :=
  ∃ A cp, e = .returned (.slice A l.length cp) ∧ Rd w' 5 A l.length (l.flatMap postC) ∧ (∀ q ∈ blkOf A, w.heap.size ≤ q) ∧ ChanAt w' C base v c.posted ∧ Chg [C] w w'

theorem postsR_of {w w1 : World} {C base : Nat} {v : Value} {c : Hg.Chan Msg} {l : List (Hg.Post Msg)} {L : Option Addr} {cl : Nat} (hown : w1.ownsRow (w.heap.size + 1) 68 5 (.slice L l.length cl) l.length (l.flatMap postC)) (hB : Blk w1 C 83 (chanC c v)) (hCr : Chg [] w w1) (HC : ChanAt w C base v c) :
    PostsR w C base v c l (.returned (.slice L l.length cl)) (w1.setCell ⟨C, 6, none⟩ (.bool false)) := by
  have hlt := HC.blk.lt
  refine ⟨L, cl, rfl, ?_, ?_, ⟨hB.set_ 6 (.bool false), ?_, HC.ne⟩, (hCr.mono (by simp)).setCell (.inl (by simp)) _⟩
  · exact (Rd.of_own hown).chg ((Chg.refl [C] w1).setCell (p := ⟨C, 6, none⟩) (.inl (by simp)) _) (fun q hq _ hm => by
      simp at hq; subst hq
      have := (own_blkOf hown) q hm; omega)
  · intro q hq; have := (own_blkOf hown) q hq; omega
  · exact (HC.wait.chg hCr (by simp)).chg ((Chg.refl [C] w1).setCell (p := ⟨C, 6, none⟩) (.inl (by simp)) (.bool false)) (fun q hq hm => by
      simp at hq; subst hq; exact HC.ne hm)

/-- the posts of the first k texts -/
def firsts (c : Hg.Chan Msg) (k : Nat) : List (Hg.Post Msg) := (c.wait.take k).mapIdx fun i s => { c.bare with seq := c.first + i, text := some s }
theorem firsts_len (c : Hg.Chan Msg) (k : Nat) (h : k ≤ c.wait.length) : (firsts c k).length = k := by simp [firsts]; omega
theorem firsts_snoc (c : Hg.Chan Msg) (k : Nat) (m : Msg) (h : c.wait[k]? = some m) : firsts c (k + 1) = firsts c k ++ [{ c.bare with seq := c.first + k, text := some m }] := by
  have hl := (List.getElem?_eq_some_iff.1 h).1
  unfold firsts
  rw [List.take_add_one, h]
  simp only [Option.toList_some]
  rw [List.mapIdx_append]
  simp [Nat.min_eq_left (Nat.le_of_lt hl)]

set_option maxHeartbeats 4000000 in
set_option maxRecDepth 100000 in
theorem posts_texts (C base : Nat) (v : Value) (c : Hg.Chan Msg) (w : World) (hC : ChanAt w C base v c) (hy : c.yours ≠ 0) (hw : 0 < c.wait.length) (hf0 : 0 ≤ c.first) (hf1 : c.first ≤ 1099511627776) :
    Calls Try.prog 20 #[.pointer (some ⟨C, 0, none⟩)] w (PostsR w C base v c (firsts c (min c.wait.length 8))) := by
  obtain ⟨i0, hi, hz0, hz1, hz2⟩ := info_parts infoPost
  obtain ⟨B, cp, rfl, hnc, hrd⟩ := hC.wait.form
  have hlt := hC.blk.lt
  have c0 : w.cell? ⟨C, 0, none⟩ = some (i64 c.mine) := hC.blk.cell 0
  have c1 : w.cell? ⟨C, 1, none⟩ = some (i64 c.yours) := hC.blk.cell 1
  have c3 : w.cell? ⟨C, 3, none⟩ = some (.slice B c.wait.length cp) := hC.blk.cell 3
  have c4 : w.cell? ⟨C, 4, none⟩ = some (i64 c.last) := hC.blk.cell 4
  have HC := Lib.hid hC
  have HR := Lib.hid hrd
  obtain ⟨n, hn⟩ : ∃ n, c.wait.length = n := ⟨_, rfl⟩
  have HN := Lib.hid hn
  rw [hn] at c3 hnc hw
  obtain ⟨k8, hk8⟩ : ∃ k8, min n 8 = k8 := ⟨_, rfl⟩
  have HK := Lib.hid hk8
  have hm : (if (8 : Int) < (n : Int) then (8 : Int) else (n : Int)) = (k8 : Int) := by split <;> omega
  have hmx : max (k8 : Int) 0 = (k8 : Int) := by omega
  have hkn : k8 ≤ n := by omega
  have hkc : k8 ≤ cp := by omega
  have hk0 : 0 < k8 := by omega
  have hk9 : k8 ≤ 8 := by omega
  have hy0 : (c.yours == 0) = false := by simpa using hy
  clear hC hn hk8 hrd
  rw [HN.out, HK.out]
  go_enter Try.func20, Try.ntmps20
  go_wp2_with fail
  go_region_held3 (fun W => W.cell? ⟨C, 0, none⟩ = some (i64 c.mine) ∧ W.cell? ⟨C, 1, none⟩ = some (i64 c.yours) ∧ W.cell? ⟨C, 3, none⟩ = some (.slice B n cp) ∧ W.cell? ⟨C, 4, none⟩ = some (i64 c.last)) (go_keep) (fail)
  have hP1 : Blk (w.alloc (.cells #[i64 c.mine, i64 c.yours, i64 c.last, i64 0, .string ⟨#[]⟩] 68)).drew w.heap.size 68 #[i64 c.mine, i64 c.yours, i64 c.last, i64 0, .string ⟨#[]⟩] := Blk.new w _ _
  have hC1 : Chg [] w (w.alloc (.cells #[i64 c.mine, i64 c.yours, i64 c.last, i64 0, .string ⟨#[]⟩] 68)).drew := ((Chg.refl [] w).alloc _).drew
  have d3 : (w.alloc (.cells #[i64 c.mine, i64 c.yours, i64 c.last, i64 0, .string ⟨#[]⟩] 68)).drew.cell? ⟨C, 3, none⟩ = some (.slice B n cp) := (hC1.cell (p := ⟨C, 3, none⟩) hlt (by simp)).trans c3
  have HP1 := Lib.hid hP1
  have HC1 := Lib.hid hC1
  clear hP1 hC1 c0 c1 c3 c4
  generalize (w.alloc (.cells #[i64 c.mine, i64 c.yours, i64 c.last, i64 0, .string ⟨#[]⟩] 68)).drew = W1 at *
  go_wp2_with fail
  go_quiet (fail)
  rename_i nq
  have HP2 : Hid (Blk (W1.drewN nq) w.heap.size 68 #[i64 c.mine, i64 c.yours, i64 c.last, i64 0, .string ⟨#[]⟩]) := HP1.out.drewN nq
  have HC2 : Hid (Chg [] w (W1.drewN nq)) := HC1.out.drewN nq
  clear HP1 HC1 d3 hm hmx
  generalize W1.drewN nq = W2 at *
  go_wp2_with fail
  go_loopw [4, 5, 6, 7, 35] (fun l _ _ _ i wr => ∃ k : Nat, k ≤ k8 ∧ i = .int .i64 k ∧ wr.ownsRow (w.heap.size + 1) 68 5 l k ((firsts c k).flatMap postC) ∧ Blk wr w.heap.size 68 #[i64 c.mine, i64 c.yours, i64 c.last, i64 0, .string ⟨#[]⟩] ∧ Chg [] w wr)
    (fun _ _ _ _ i _ => k8 - (intOf i).toNat)
  case atStart => exact ⟨0, by omega, rfl, by simpa [firsts] using World.ownsRow_nil _ _ _ _, HP2.out, HC2.out⟩
  case round =>
    obtain ⟨k, hk, rfl, hown, hP, hCr⟩ := hrel
    rcases Nat.lt_or_ge k k8 with hlk | hge
    · obtain ⟨ad, u, rfl, hu, hc⟩ := (HR.out.new_ hCr).at_ (k := k) (by rw [HN.out]; omega)
      have hwk : k < c.wait.length := by rw [HN.out]; omega
      rw [txtL, List.getElem?_map, List.getElem?_eq_getElem hwk] at hu
      simp only [Option.map_some, Option.some.injEq] at hu
      have hsn := Lib.hid (firsts_snoc c k _ (List.getElem?_eq_getElem hwk))
      generalize c.wait[k] = m at hu hsn
      subst hu
      have e1 : wr.cell? ⟨C, 1, none⟩ = some (i64 c.yours) := ((HC.out.blk.chg hCr (by simp))).cell 1
      have e2 : wr.cell? ⟨C, 2, none⟩ = some (i64 c.first) := ((HC.out.blk.chg hCr (by simp))).cell 2
      have kP := fun j => hP.cell j
      have HWk := Lib.hid hwk
      have hCs : ¬ (C = wr.heap.size) := by have := hCr.size; omega
      have hlw : w.heap.size < wr.heap.size := hP.lt
      have hfk : IntKind.i64.wrap (c.first + (k : Int)) = c.first + (k : Int) := IntWalk.i64_in _ (by omega)
      obtain ⟨L, cl, rfl⟩ := own_slice' hown
      have e3 : ∀ o, (wr.alloc o).cell? ⟨C, 2, none⟩ = some (i64 c.first) := fun o => (((Chg.refl [] wr).alloc o).cell (p := ⟨C, 2, none⟩) (by show C < _; omega) (by simp)).trans e2
      have HO := Lib.hid (And.intro hown (And.intro hP hCr))
      clear hown hP hCr hwk
      go_wp2_with (at_builtin; refine wpList_append_own _ rfl (.tmp 55) (.tmp 57) 64 rfl (w.heap.size + 1) 68 i0 _ 5 48 Try.underlying64 hi hz0 hz1 hz2 rfl (by decide) (.slice L k cl) k ((firsts c k).flatMap postC) rfl ((HO.out.1.alloc _).alloc _) ⟨wr.heap.size + 1, 0, none⟩ 1 1 [i64 c.mine, i64 c.yours, i64 c.last, i64 (c.first + k), strV (eMsg m)] rfl rfl (World.news_of_block (t := 68) (fr := (0, 0)) (cs := #[i64 c.mine, i64 c.yours, i64 c.last, i64 (c.first + k), strV (eMsg m)]) (by rw [show wr.heap.size + 1 = (wr.alloc (.cells #[i64 c.mine, i64 c.yours, i64 c.last, i64 (c.first + k), strV (eMsg m)] 68)).heap.size by simp]; exact heap_alloc_new _ _)) (by simp [Value.oneCell']) (by unfold maxLen; omega) (by omega) (by simp; omega) ?_)
      intro v2 w2 hown2 hgrow hnil
      obtain ⟨B2, c2, rfl⟩ := own_slice' hown2
      obtain ⟨hown, hP, hCr⟩ := HO.out
      have hne : (Value.slice L k cl).ownBlock ≠ some w.heap.size := fun e => by have := (hown.lt _ e).1; omega
      have hP2 : Blk w2 w.heap.size 68 #[i64 c.mine, i64 c.yours, i64 c.last, i64 0, .string ⟨#[]⟩] := (hgrow.block _ (by simp; omega) (fun e => hne e.symm)).trans ((hP.alloc _).alloc _)
      have hC2 : Chg [] w w2 := ((hCr.alloc _).alloc _).then_ (Chg.of_grown (S := rowOf (.slice L k cl)) hgrow (fun q e => .inl (by rw [rowOf, e]; simp))) (fun q hq hm => by have := (hown.lt q (by unfold rowOf at hm; simpa using hm)).1; omega)
      have hown3 : w2.ownsRow (w.heap.size + 1) 68 5 (.slice B2 (k + 1) c2) (k + 1) ((firsts c (k + 1)).flatMap postC) := by
        rw [hsn.out, List.flatMap_append]
        exact hown2
      clear hown hP hCr hown2 hgrow hnil e1 e2 e3 kP hc
      go_wp2_with fail
      go_roundw
      case rel => exact ⟨k + 1, by omega, by go_num, hown3, hP2, hC2⟩
      case measure => simp [intOf]; omega
    · have : k = k8 := by omega
      subst this
      have hB := HC.out.blk.chg hCr (by simp)
      have f6 := hB.frozen 6
      have c6 : wr.cell? ⟨C, 6, none⟩ = some (.bool c.owes) := hB.cell 6
      have e0 : ((k : Int) == 0) = false := by simp; omega
      obtain ⟨L, cl, rfl⟩ := own_slice' hown
      have HO := Lib.hid (And.intro hown (And.intro hP (And.intro hCr hB)))
      clear hown hP hCr hB
      go_wp2_with fail
      obtain ⟨hown, hP, hCr, hB⟩ := HO.out
      have hfl := firsts_len c k (by rw [HN.out]; omega)
      have hO : wr.ownsRow (w.heap.size + 1) 68 5 (.slice L (firsts c k).length cl) (firsts c k).length ((firsts c k).flatMap postC) := by rw [hfl]; exact hown
      have hR := postsR_of hO hB hCr HC.out
      rw [HN.out, hfl] at hR
      go_returns
      exact hR

/-- the bare post, and what is told when nothing waits -/
def bares (c : Hg.Chan Msg) : List (Hg.Post Msg) := (if c.owes then [c.bare] else []) ++ (if c.met then [] else [{ c.bare with yours := 0 }])

theorem bares_eq (c : Hg.Chan Msg) (o m : Bool) (ho : c.owes = o) (hm : c.met = m) : bares c = (if o then [c.bare] else []) ++ (if m then [] else [{ c.bare with yours := 0 }]) := by
  subst ho; subst hm; rfl

set_option maxHeartbeats 4000000 in
set_option maxRecDepth 100000 in
theorem posts_bare (C base : Nat) (v : Value) (c : Hg.Chan Msg) (w : World) (hC : ChanAt w C base v c) (hq : c.yours = 0 ∨ c.wait.length = 0) :
    Calls Try.prog 20 #[.pointer (some ⟨C, 0, none⟩)] w (PostsR w C base v c (bares c)) := by
  obtain ⟨i0, hi, hz0, hz1, hz2⟩ := info_parts infoPost
  obtain ⟨B, cp, rfl, hnc, hrd⟩ := hC.wait.form
  have hlt := hC.blk.lt
  have c0 : w.cell? ⟨C, 0, none⟩ = some (i64 c.mine) := hC.blk.cell 0
  have c1 : w.cell? ⟨C, 1, none⟩ = some (i64 c.yours) := hC.blk.cell 1
  have c3 : w.cell? ⟨C, 3, none⟩ = some (.slice B c.wait.length cp) := hC.blk.cell 3
  have c4 : w.cell? ⟨C, 4, none⟩ = some (i64 c.last) := hC.blk.cell 4
  have HC := Lib.hid hC
  have HR := Lib.hid hrd
  obtain ⟨n, hn⟩ : ∃ n, c.wait.length = n := ⟨_, rfl⟩
  have HN := Lib.hid hn
  rw [hn] at c3 hnc hq
  obtain ⟨k8, hk8⟩ : ∃ k8, min n 8 = k8 := ⟨_, rfl⟩
  have HK := Lib.hid hk8
  have hm : (if (8 : Int) < (n : Int) then (8 : Int) else (n : Int)) = (k8 : Int) := by split <;> omega
  have hmx : max (k8 : Int) 0 = (k8 : Int) := by omega
  have hkn : k8 ≤ n := by omega
  have hkc : k8 ≤ cp := by omega
  have hq2 : c.yours = 0 ∨ k8 = 0 := by omega
  clear hC hn hk8 hrd hq
  rw [HN.out]
  go_enter Try.func20, Try.ntmps20
  go_wp2_with fail
  go_region_held3 (fun W => W.cell? ⟨C, 0, none⟩ = some (i64 c.mine) ∧ W.cell? ⟨C, 1, none⟩ = some (i64 c.yours) ∧ W.cell? ⟨C, 3, none⟩ = some (.slice B n cp) ∧ W.cell? ⟨C, 4, none⟩ = some (i64 c.last)) (go_keep) (fail)
  have hP1 : Blk (w.alloc (.cells #[i64 c.mine, i64 c.yours, i64 c.last, i64 0, .string ⟨#[]⟩] 68)).drew w.heap.size 68 #[i64 c.mine, i64 c.yours, i64 c.last, i64 0, .string ⟨#[]⟩] := Blk.new w _ _
  have hC1 : Chg [] w (w.alloc (.cells #[i64 c.mine, i64 c.yours, i64 c.last, i64 0, .string ⟨#[]⟩] 68)).drew := ((Chg.refl [] w).alloc _).drew
  have d3 : (w.alloc (.cells #[i64 c.mine, i64 c.yours, i64 c.last, i64 0, .string ⟨#[]⟩] 68)).drew.cell? ⟨C, 3, none⟩ = some (.slice B n cp) := (hC1.cell (p := ⟨C, 3, none⟩) hlt (by simp)).trans c3
  have HP1 := Lib.hid hP1
  have HC1 := Lib.hid hC1
  clear hP1 hC1 c0 c1 c3 c4
  generalize (w.alloc (.cells #[i64 c.mine, i64 c.yours, i64 c.last, i64 0, .string ⟨#[]⟩] 68)).drew = W1 at *
  go_wp2_with fail
  go_quiet (fail)
  rename_i nq
  have HP2 : Hid (Blk (W1.drewN nq) w.heap.size 68 #[i64 c.mine, i64 c.yours, i64 c.last, i64 0, .string ⟨#[]⟩]) := HP1.out.drewN nq
  have HC2 : Hid (Chg [] w (W1.drewN nq)) := HC1.out.drewN nq
  clear HP1 HC1 d3 hm hmx
  generalize W1.drewN nq = W2 at *
  go_wp2_with fail
  go_loopw [4, 5, 6, 7, 35] (fun l _ _ _ i wr => i = .int .i64 0 ∧ l = .slice none 0 0 ∧ W2 = wr)
    (fun _ _ _ _ i _ => k8 - (intOf i).toNat)
  case atStart => exact ⟨rfl, rfl, rfl⟩
  case round =>
    obtain ⟨rfl, rfl, rfl⟩ := hrel
    have hP := HP2.out
    have hCr := HC2.out
    have hB := HC.out.blk.chg hCr (by simp)
    have kP := fun j => hP.cell j
    have fP := hP.frozen 1
    have e1 : W2.cell? ⟨C, 1, none⟩ = some (i64 c.yours) := hB.cell 1
    have e5 : W2.cell? ⟨C, 5, none⟩ = some (.bool c.met) := hB.cell 5
    have e6 : W2.cell? ⟨C, 6, none⟩ = some (.bool c.owes) := hB.cell 6
    have f6 := hB.frozen 6
    rw [HN.out] at hB
    have hCs : ¬ (C = w.heap.size) := by omega
    have hlw : w.heap.size < W2.heap.size := hP.lt
    have HB := Lib.hid hB
    have HPP := Lib.hid hP
    have HCr := Lib.hid hCr
    have hcase : (k8 = 0) ∨ (0 < k8 ∧ c.yours = 0 ∧ ∃ ad m, B = some ad ∧ W2.cell? (ad.add 0) = some (strV (eMsg m))) := by
      rcases Nat.eq_zero_or_pos k8 with h0 | h0
      · exact .inl h0
      · refine .inr ⟨h0, by omega, ?_⟩
        obtain ⟨ad, u, rfl, hu, hc⟩ := (HR.out.new_ hCr).at_ (k := 0) (by rw [HN.out]; omega)
        rw [txtL, List.getElem?_map, List.getElem?_eq_getElem (by rw [HN.out]; omega)] at hu
        simp only [Option.map_some, Option.some.injEq] at hu
        exact ⟨ad, _, rfl, by rw [hu]; exact hc⟩
    clear hB hP hCr hq2
    rcases hcase with h0 | ⟨h0, hy, ad, m, rfl, hc0⟩
    rotate_left
    rw [hy] at e1
    have HY := Lib.hid hy
    clear hy
    have hc1 : W2.cell? ad = some (strV (eMsg m)) := by simpa [Addr.add] using hc0
    rotate_left
    subst h0
    all_goals (cases ho : c.owes <;> cases hme : c.met)
    all_goals (
      rw [ho] at e6
      rw [hme] at e5
      have HO := Lib.hid ho
      have HM := Lib.hid hme
      clear ho hme
      go_wp2_with (first
        | (at_builtin; refine wpList_append_own _ rfl (.tmp 67) (.tmp 69) 64 rfl (w.heap.size + 1) 68 i0 _ 5 48 Try.underlying64 hi hz0 hz1 hz2 rfl (by decide) (.slice none 0 0) 0 [] rfl (World.ownsRow_nil _ _ _ _) ⟨W2.heap.size, 0, none⟩ 1 1 [i64 c.mine, i64 c.yours, i64 c.last, i64 0, .string ⟨#[]⟩] rfl rfl (World.news_of_block (heap_alloc_new W2 (.cells #[i64 c.mine, i64 c.yours, i64 c.last, i64 0, .string ⟨#[]⟩] 68))) (by simp [Value.oneCell']) (by unfold maxLen; omega) (by omega) (by simp; omega) ?_
           intro v2 w2 hown2 hgrow2 hnil2
           rw [Nat.zero_add, List.nil_append] at hown2
           obtain ⟨B2, c2, rfl⟩ := own_slice' hown2
           have hP2 : Blk w2 w.heap.size 68 #[i64 c.mine, i64 c.yours, i64 c.last, i64 0, .string ⟨#[]⟩] := (hgrow2.block _ (by simp; omega) (by simp [Value.ownBlock])).trans (HPP.out.alloc _)
           have hB2 : Blk w2 C 83 (chanC c (.slice _ n cp)) := (hgrow2.block _ (by simp; omega) (by simp [Value.ownBlock])).trans (HB.out.alloc _)
           have hC2 : Chg [] w w2 := (HCr.out.alloc _).then_ (Chg.of_grown (S := []) hgrow2 (fun q e => by simp [Value.ownBlock] at e)) (by simp)
           have kP2 := fun j => hP2.cell j
           have fP2 := hP2.frozen 1
           have g5 : w2.cell? ⟨C, 5, none⟩ = some (.bool c.met) := hB2.cell 5
           rw [HM.out] at g5
           have g6 := hB2.frozen 6
           have q6 : w2.cell? ⟨C, 6, none⟩ = some (.bool c.owes) := hB2.cell 6
           have hlw2 : w.heap.size < w2.heap.size := hP2.lt
           have HO2 := Lib.hid (And.intro hown2 (And.intro hP2 (And.intro hB2 hC2)))
           clear hown2 hP2 hB2 hC2 hgrow2 hnil2)
        | (at_builtin; refine wpList_append_own _ rfl (.tmp 77) (.tmp 79) 64 rfl (w.heap.size + 1) 68 i0 _ 5 48 Try.underlying64 hi hz0 hz1 hz2 rfl (by decide) (.slice B2 1 c2) 1 [i64 c.mine, i64 c.yours, i64 c.last, i64 0, .string ⟨#[]⟩] rfl (own_chg HO2.out.1 ((Chg.refl [w.heap.size] w2).setCell (p := ⟨w.heap.size, 1, none⟩) (.inl (by simp)) (i64 0) |>.alloc (.cells #[i64 c.mine, i64 0, i64 c.last, i64 0, .string ⟨#[]⟩] 68)) (by intro q hq hm; simp at hm; subst hm; have := (HO2.out.1.lt _ hq).1; omega)) ⟨w2.heap.size, 0, none⟩ 1 1 [i64 c.mine, i64 0, i64 c.last, i64 0, .string ⟨#[]⟩] rfl rfl (World.news_of_block (by have := heap_alloc_new (w2.setCell ⟨w.heap.size, 1, none⟩ (i64 0)) (.cells #[i64 c.mine, i64 0, i64 c.last, i64 0, .string ⟨#[]⟩] 68); rwa [World.size_setCell] at this)) (by simp [Value.oneCell']) (by unfold maxLen; omega) (by omega) (by simp; omega) ?_
           intro v3 w3 hown3 hgrow3 hnil3
           obtain ⟨B3, c3, rfl⟩ := own_slice' hown3
           have hB3 : Blk w3 C 83 (chanC c (.slice _ n cp)) := (hgrow3.block _ (by simp [World.size_setCell]; omega) (fun e => by have := (HO2.out.1.lt _ e.symm).1; omega)).trans ((HO2.out.2.2.1.far (p := ⟨w.heap.size, 1, none⟩) hCs _).alloc _)
           have hC3 : Chg [] w w3 := ((HO2.out.2.2.2.setCell (p := ⟨w.heap.size, 1, none⟩) (.inr (Nat.le_refl _)) _).alloc _).then_ (Chg.of_grown (S := rowOf (.slice B2 1 c2)) hgrow3 (fun q e => .inl (by rw [rowOf, e]; simp))) (fun q hq hm => by have := (HO2.out.1.lt q (by unfold rowOf at hm; simpa using hm)).1; omega)
           have g6 := hB3.frozen 6
           have q6 : w3.cell? ⟨C, 6, none⟩ = some (.bool c.owes) := hB3.cell 6
           have HO3 := Lib.hid (And.intro hown3 (And.intro hB3 hC3))
           clear hown3 hB3 hC3 hgrow3 hnil3)
        | (at_builtin; refine wpList_append_own _ rfl (.tmp 77) (.tmp 79) 64 rfl (w.heap.size + 1) 68 i0 _ 5 48 Try.underlying64 hi hz0 hz1 hz2 rfl (by decide) (.slice none 0 0) 0 [] rfl (World.ownsRow_nil _ _ _ _) ⟨W2.heap.size, 0, none⟩ 1 1 [i64 c.mine, i64 0, i64 c.last, i64 0, .string ⟨#[]⟩] rfl rfl (World.news_of_block (by have := heap_alloc_new (W2.setCell ⟨w.heap.size, 1, none⟩ (i64 0)) (.cells #[i64 c.mine, i64 0, i64 c.last, i64 0, .string ⟨#[]⟩] 68); rwa [World.size_setCell] at this)) (by simp [Value.oneCell']) (by unfold maxLen; omega) (by omega) (by simp; omega) ?_
           intro v3 w3 hown3 hgrow3 hnil3
           rw [Nat.zero_add, List.nil_append] at hown3
           obtain ⟨B3, c3, rfl⟩ := own_slice' hown3
           have hB3 : Blk w3 C 83 (chanC c (.slice _ n cp)) := (hgrow3.block _ (by simp [World.size_setCell]; omega) (by simp [Value.ownBlock])).trans ((HB.out.far (p := ⟨w.heap.size, 1, none⟩) hCs _).alloc _)
           have hC3 : Chg [] w w3 := ((HCr.out.setCell (p := ⟨w.heap.size, 1, none⟩) (.inr (Nat.le_refl _)) _).alloc _).then_ (Chg.of_grown (S := []) hgrow3 (fun q e => by simp [Value.ownBlock] at e)) (by simp)
           have g6 := hB3.frozen 6
           have q6 : w3.cell? ⟨C, 6, none⟩ = some (.bool c.owes) := hB3.cell 6
           have HO3 := Lib.hid (And.intro hown3 (And.intro hB3 hC3))
           clear hown3 hB3 hC3 hgrow3 hnil3))
      have hb := bares_eq c _ _ HO.out HM.out
      have hCat := HC.out
      rw [HN.out] at hCat
      go_returns
      rw [hb]
      first
        | exact postsR_of (l := []) (World.ownsRow_nil _ _ _ _) HB.out HCr.out hCat
        | exact postsR_of (l := [c.bare, { c.bare with yours := 0 }]) HO3.out.1 HO3.out.2.1 HO3.out.2.2 hCat
        | exact postsR_of (l := [{ c.bare with yours := 0 }]) HO3.out.1 HO3.out.2.1 HO3.out.2.2 hCat
        | exact postsR_of (l := [c.bare]) HO2.out.1 HO2.out.2.2.1 HO2.out.2.2.2 hCat)

/-- whatever is told -/
theorem posts_any (C base : Nat) (v : Value) (c : Hg.Chan Msg) (w : World) (hC : ChanAt w C base v c) (hf0 : 0 ≤ c.first) (hf1 : c.first ≤ 1099511627776) :
    Calls Try.prog 20 #[.pointer (some ⟨C, 0, none⟩)] w (PostsR w C base v c c.posts) := by
  by_cases hq : c.yours = 0 ∨ c.wait.length = 0
  · have : c.posts = bares c := by
      have ht : c.texts = [] := by
        unfold Hg.Chan.texts
        rcases hq with h | h
        · rw [if_pos h]
        · rw [List.length_eq_zero_iff.1 h]; split <;> rfl
      unfold Hg.Chan.posts bares
      rw [ht]; rfl
    rw [this]
    exact posts_bare C base v c w hC hq
  · have hy : c.yours ≠ 0 := fun h => hq (.inl h)
    have hw : 0 < c.wait.length := by omega
    have : c.posts = firsts c (min c.wait.length 8) := by
      have ht : c.texts = firsts c (min c.wait.length 8) := by
        unfold Hg.Chan.texts firsts
        rw [if_neg hy]
        have : c.wait.take 8 = c.wait.take (min c.wait.length 8) := by rw [Nat.min_comm, List.take_eq_take_iff]; omega
        rw [this]
      have hl := firsts_len c (min c.wait.length 8) (by omega)
      unfold Hg.Chan.posts
      rw [ht]
      have : (firsts c (min c.wait.length 8)).isEmpty = false := by
        cases h : firsts c (min c.wait.length 8) with
        | nil => rw [h] at hl; simp at hl; omega
        | cons _ _ => rfl
      rw [this]; rfl
    rw [this]
    exact posts_texts C base v c w hC hy hw hf0 hf1
end Go.Proofs.Yteajdkneiejlaaa

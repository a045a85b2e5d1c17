/- The walk of top's says, of node 0 and of node 1. (made by a small program) -/
import Derived.Test.YteajdkneiejlaaaGRest
namespace Go.Proofs.Yteajdkneiejlaaa
open Go.RowKit Hg

theorem ChgF.toChg {F : List Nat} {b : Nat} {w w' : World} (h : ChgF F b w w') : Chg (F ++ List.range' b (w.heap.size - b)) w w' :=
  ⟨h.os, h.tape, h.output, h.size, fun k hk hn => h.block k (Nat.lt_of_not_le fun hl => hn (List.mem_append_right _ (by rw [List.mem_range'_1]; omega))) (fun hm => hn (List.mem_append_left _ hm))⟩
theorem PairIn.reframe {w : World} {F : List Nat} {b P C0 : Nat} {p : Pair Msg} (h : PairIn w F b P C0 p) : PairIn w (F ++ List.range' b (w.heap.size - b)) w.heap.size P C0 p := by
  obtain ⟨C1, N, v0, v1, vn, g0, g1, x0, x1, h⟩ := h
  refine ⟨C1, N, v0, v1, vn, g0, g1, x0, x1, h.frame (Nat.le_refl _) fun a ha q hq => .inl ?_⟩
  have := h.lt a ha q hq
  rcases this.1 with h1 | h1
  · exact List.mem_append_left _ h1
  · exact List.mem_append_right _ (by rw [List.mem_range'_1]; omega)
theorem reframe_mem {F : List Nat} {b n q : Nat} (h : q ∈ F ++ List.range' b (n - b)) (hb : b ≤ n) (hF : ∀ q ∈ F, q < b) : (q ∈ F ∨ b ≤ q) ∧ q < n := by
  rcases List.mem_append.1 h with h | h
  · have := hF q h; exact ⟨.inl h, by omega⟩
  · rw [List.mem_range'_1] at h; exact ⟨.inr h.1, by omega⟩

theorem WaitAt.lt {w : World} {base n : Nat} {v : Value} {xs : List Value} (h : WaitAt w base v n xs) (hn : 0 < n) : ∀ q ∈ rowOf v, q < w.heap.size := by
  rcases h with h | ⟨A, rfl, hr⟩
  · exact rowOf_lt h
  · intro q hq
    obtain ⟨ad, rfl, hc⟩ := hr.2 hn
    have hl : 0 < xs.length := by have := hr.1; omega
    have := cell_lt (hc 0 _ (List.getElem?_eq_getElem hl))
    rw [block_add] at this
    simp [rowOf, Value.ownBlock] at hq
    omega

/-- what says leaves: nothing was said, or the message m was -/
def SaysR (w : World) (F : List Nat) (b P C0 : Nat) (g : Value) (x : List HM) (y : HM) (p p' : Pair Msg) (ok : Prop) (e : Ending) (w' : World) : Prop :=
  (e = .returned g ∧ PairIn w' F b P C0 p ∧ ChgF F b w w') ∨
  (ok ∧ ∃ F' g', e = .returned g' ∧ PairIn w' F' w'.heap.size P C0 p' ∧ (∀ q ∈ F', (q ∈ F ∨ b ≤ q) ∧ q < w'.heap.size ∧ q ∉ rowOf g') ∧ w'.ownsRow 0 36 6 g' (x.length + 1) ((x ++ [y]).flatMap msgC) ∧ Lies w g g' ∧ ChgF (rowOf g ++ F) b w w')

/-- node 0 says a message -/
abbrev say0 (p : Pair Msg) (m : Msg) : Pair Msg := { p with e0 := { p.e0 with wait := p.e0.wait ++ [m] } }

set_option maxHeartbeats 2000000 in
set_option maxRecDepth 100000 in
/-- it may not be -/
theorem says0_bad (w : World) (F : List Nat) (b P C0 : Nat) (p : Pair Msg) (g : Value) (m : Msg) (s1 s2 s3 : Option Addr × Nat) (h : PairIn w F b P C0 p) (hm : MsgIn w m s1 s2 s3) (hck : chkMsg m = false) :
    Calls Try.prog 6 #[ptrV P, .int .i64 0, msgV m s1 s2 s3, g] w fun e w' => e = .returned g ∧ PairIn w' F b P C0 p ∧ ChgF F b w w' := by
  obtain ⟨C1, N, v0, v1, vn, g0, g1, x0, x1, h⟩ := h
  have hg := (Chg.refl [] w).alloc (.cells #[i64 m.kind, i64 m.t, i64 m.n, .slice s1.1 m.cmds.length s1.2, .slice s2.1 m.buns.length s2.2, .slice s3.1 m.ids.length s3.2] 36)
  have E1 := Lib.hid (enc_bad m s1 s2 s3 _ (hm.new_ hg) hck)
  have HG := Lib.hid hg
  have H := Lib.hid h
  clear h hm hck hg
  go_enter Try.func6, Try.ntmps6
  go_wp2_with fail
  (with_reducible refine E1.out.mono ?_)
  rintro e w1 ⟨rfl, hg1⟩
  go_wp2_with fail
  go_returns
  exact ⟨rfl, ⟨_, _, _, _, _, _, _, _, _, (H.out.new_ HG.out).new_ hg1⟩, ChgF.of (S := []) (HG.out.trans hg1) H.out.base (by simp)⟩

set_option maxHeartbeats 2000000 in
set_option maxRecDepth 100000 in
theorem says0_any (w : World) (F : List Nat) (b P C0 : Nat) (p : Pair Msg) (g : Value) (x : List HM) (m : Msg) (s1 s2 s3 : Option Addr × Nat) (h : PairIn w F b P C0 p) (hm : MsgIn w m s1 s2 s3) (hck : chkMsg m = true) (hw : p.e0.wait.length ≤ 1024)
    (hg : w.ownsRow 0 36 6 g x.length (x.flatMap msgC)) (hx : x.length ≤ 1000000000) (hsep : ∀ q ∈ rowOf g, q ∉ F ∧ q < b) (hFb : ∀ q ∈ F, q < b) :
    Calls Try.prog 6 #[ptrV P, .int .i64 0, msgV m s1 s2 s3, g] w (SaysR w F b P C0 g x ⟨m, s1, s2, s3⟩ p (say0 p m) (chkMsg m = true ∧ (eMsg m).length ≤ 65472 ∧ p.e0.wait.length < 1024)) := by
  obtain ⟨C1, N, v0, v1, vn, g0, g1, x0, x1, h⟩ := h
  obtain ⟨i0, hi0, hz0, hz1, hz2⟩ := info_parts infoMsg
  have hgA := (Chg.refl [] w).alloc (.cells #[i64 m.kind, i64 m.t, i64 m.n, .slice s1.1 m.cmds.length s1.2, .slice s2.1 m.buns.length s2.2, .slice s3.1 m.ids.length s3.2] 36)
  have hM := Blk.new w 36 #[i64 m.kind, i64 m.t, i64 m.n, .slice s1.1 m.cmds.length s1.2, .slice s2.1 m.buns.length s2.2, .slice s3.1 m.ids.length s3.2]
  have E1 := Lib.hid (enc_any m s1 s2 s3 _ (hm.new_ hgA) hck)
  have H0 := Lib.hid (And.intro h (And.intro hg (And.intro hsep (And.intro hgA (And.intro hM (And.intro hck (And.intro hw hFb)))))))
  obtain ⟨GA, GC, hGG⟩ := own_slice' hg
  have HGG := Lib.hid hGG
  obtain ⟨xn, hxn⟩ : ∃ xn, x.length = xn := ⟨_, rfl⟩
  have HXN := Lib.hid hxn
  rw [hxn] at hx hGG
  clear h hm hck hgA hM hw hg hsep hFb hxn
  subst hGG
  go_enter Try.func6, Try.ntmps6
  go_wp2_with fail
  (with_reducible refine E1.out.mono ?_)
  rintro e w1 ⟨rfl, hg1⟩
  have hP1 := (H0.out.1.new_ H0.out.2.2.2.1).new_ hg1
  have hM1 := H0.out.2.2.2.2.1.chg hg1 (by simp)
  have cE : w1.cell? ⟨P, 0, none⟩ = some (ptrV C0) := hP1.blk.cell 0
  have hW1 : Chg [] w w1 := H0.out.2.2.2.1.trans hg1
  have H1 := Lib.hid (And.intro hP1 (And.intro hM1 hW1))
  clear hP1 hM1 hg1 hW1 E1
  have hlm : (eMsg m).length ≤ 65472 ∨ 65472 < (eMsg m).length := by omega
  have hr1 : Rd (w1.alloc (.cells #[strV (eMsg m)] 9)) 1 (some ⟨w1.heap.size, 0, none⟩) 1 [strV (eMsg m)] := rd_box _ _ rfl _ _
  have hP2 := H1.out.1.new_ ((Chg.refl [] w1).alloc (.cells #[strV (eMsg m)] 9))
  rcases hlm with hl | hl
  · rcases Nat.lt_or_ge p.e0.wait.length 1024 with hw | hw
    · have S1 := Lib.hid (say_any C0 0 v0 p.e0 m (some ⟨w1.heap.size, 0, none⟩) _ hP2.c0 (by omega) hr1 hl hw)
      have H2 := Lib.hid (And.intro hP2 (And.intro hl hw))
      clear hr1 hP2 hl hw
      go_wp2_with fail
      (with_reducible refine S1.out.mono ?_)
      rintro e w2 ⟨rfl, v', hch, hlv, hg2⟩
      have hP3 := H2.out.1.upC0 hch hlv (hch.wait.lt (by simp)) hg2
      have hM2 : Blk w2 w.heap.size 36 #[i64 m.kind, i64 m.t, i64 m.n, .slice s1.1 m.cmds.length s1.2, .slice s2.1 m.buns.length s2.2, .slice s3.1 m.ids.length s3.2] := (H1.out.2.1.alloc (.cells #[strV (eMsg m)] 9)).chg hg2 (fun hm => by have := (H0.out.1.lt (C0 :: rowOf v0) (by simp) _ hm).2; omega)
      have hgA : Chg [] w (w1.alloc (.cells #[strV (eMsg m)] 9)) := H1.out.2.2.alloc _
      have hnS : ∀ q ∈ C0 :: rowOf v0, q ∉ rowOf (.slice GA xn GC) := fun q hq hm => by
        have e1 := H0.out.2.2.1 q hm
        rcases (H0.out.1.lt (C0 :: rowOf v0) (by simp) q hq).1 with h | h
        · exact e1.1 h
        · omega
      have hown2 : w2.ownsRow 0 36 6 (.slice GA xn GC) xn (x.flatMap msgC) := by
        have h1 := own_chg (own_chg H0.out.2.1 hgA (by simp)) hg2 (fun q hq hm => hnS q hm (by rw [rowOf, hq]; simp))
        rw [HXN.out] at h1; exact h1
      have kM := fun i => hM2.cell i
      have hbase : b ≤ w.heap.size := H0.out.1.base
      have hC2 : ChgF (rowOf (.slice GA xn GC) ++ F) b w w2 := (ChgF.of (S := []) hgA hbase (by simp)).trans (ChgF.of hg2 H2.out.1.base (fun q hq => by
        rcases (H0.out.1.lt (C0 :: rowOf v0) (by simp) q hq).1 with h | h
        · exact .inl (List.mem_append_right _ h)
        · exact .inr h))
      have HO := Lib.hid (And.intro hown2 (And.intro hP3 (And.intro hC2 hM2)))
      clear hch hlv hg2 hP3 hM2 hgA hnS hown2 hC2 cE S1
      go_wp2_with (at_builtin; refine wpList_append_own_at _ rfl (.tmp 31) (.tmp 33) 22 rfl 0 36 i0 _ 6 96 Try.underlying22 hi0 hz0 hz1 hz2 rfl (by decide) (.slice GA xn GC) xn (x.flatMap msgC) rfl (HO.out.1.alloc _) ⟨w2.heap.size, 0, none⟩ 1 1 (msgC ⟨m, s1, s2, s3⟩) rfl rfl (World.news_of_block (Blk.new w2 36 #[i64 m.kind, i64 m.t, i64 m.n, .slice s1.1 m.cmds.length s1.2, .slice s2.1 m.buns.length s2.2, .slice s3.1 m.ids.length s3.2])) (by simp [Value.oneCell']) (by unfold maxLen; omega) (by omega) (by omega) ?_)
      intro v4 w4 hown4 hgrow hnil hat
      obtain ⟨B4, c4, rfl⟩ := own_slice' hown4
      obtain ⟨hown2, hP3, hC2, hM2⟩ := HO.out
      have hgG : Chg (rowOf (.slice GA xn GC)) w2 w4 := ((Chg.refl _ w2).alloc _).then_ (Chg.of_grown (S := rowOf (.slice GA xn GC)) hgrow (fun q e => .inl (by rw [rowOf, e]; simp))) (fun _ _ h => h)
      have hsepP : ∀ q ∈ rowOf (.slice GA xn GC), ∀ a ∈ parts7 P C0 C1 N _ _ vn g0 g1 x0 x1, q ∉ a := fun q hq a ha hm => by
        have e1 := H0.out.2.2.1 q hq
        rcases (hP3.lt a ha q hm).1 with h | h
        · exact e1.1 h
        · omega
      have hP4 := hP3.far hgG hsepP
      have hs4 : w2.heap.size ≤ w4.heap.size := hgG.size
      have hC4 : ChgF (rowOf (.slice GA xn GC) ++ F) b w w4 := hC2.trans (ChgF.of hgG hP3.base (fun q hq => .inl (List.mem_append_left _ hq)))
      have hin : PairIn w4 (F ++ List.range' b (w2.heap.size - b)) w4.heap.size P C0 (say0 p m) := ⟨_, _, _, _, _, _, _, _, _, hP4.frame (Nat.le_refl _) (fun a ha q hq => .inl (by
        have e1 := hP3.lt a ha q hq
        rcases e1.1 with h1 | h1
        · exact List.mem_append_left _ h1
        · exact List.mem_append_right _ (by rw [List.mem_range'_1]; omega)))⟩
      have hF' : ∀ q ∈ F ++ List.range' b (w2.heap.size - b), (q ∈ F ∨ b ≤ q) ∧ q < w4.heap.size ∧ q ∉ rowOf (.slice B4 (xn + 1) c4) := fun q hq => by
        have e1 := reframe_mem hq hP3.base H0.out.2.2.2.2.2.2.2
        refine ⟨e1.1, by omega, fun hm => ?_⟩
        rcases hat with h | h
        · have hm2 : q ∈ rowOf (.slice GA xn GC) := by rw [rowOf] at hm ⊢; rw [← h]; exact hm
          have e2 := H0.out.2.2.1 q hm2
          rcases e1.1 with h1 | h1
          · exact e2.1 h1
          · omega
        · rw [rowOf, h] at hm
          simp at hm
          omega
      have hL4 : Lies w (.slice GA xn GC) (.slice B4 (xn + 1) c4) := by
        have := Lies.of_at (w := w) (w1 := w2.alloc (.cells #[i64 m.kind, i64 m.t, i64 m.n, .slice s1.1 m.cmds.length s1.2, .slice s2.1 m.buns.length s2.2, .slice s3.1 m.ids.length s3.2] 36)) (by rw [World.size_alloc]; exact hat) (by have := hC2.size; simp; omega)
        exact this
      have hown5 : w4.ownsRow 0 36 6 (.slice B4 (xn + 1) c4) (x.length + 1) ((x ++ [(⟨m, s1, s2, s3⟩ : HM)]).flatMap msgC) := by
        rw [HXN.out, List.flatMap_append]; exact hown4
      have HF := Lib.hid (And.intro hin (And.intro hF' (And.intro hown5 (And.intro hL4 hC4))))
      clear hown2 hP3 hC2 hM2 hgG hsepP hP4 hs4 hC4 hin hF' hL4 hown5 hown4 hgrow hnil hat kM
      go_wp2_with fail
      go_returns
      exact .inr ⟨⟨H0.out.2.2.2.2.2.1, H2.out.2.1, H2.out.2.2⟩, _, _, rfl, HF.out.1, HF.out.2.1, HF.out.2.2.1, HF.out.2.2.2.1, HF.out.2.2.2.2⟩
    · have S1 := Lib.hid (say_full C0 0 v0 p.e0 (eMsg m) (some ⟨w1.heap.size, 0, none⟩) _ hP2.c0 hr1 hl hw H0.out.2.2.2.2.2.2.1)
      have H2 := Lib.hid hP2
      clear hr1 hP2 hl hw
      go_wp2_with fail
      (with_reducible refine S1.out.mono ?_)
      rintro e w2 ⟨rfl, hg2⟩
      have HF : Hid (PairIn w2 F b P C0 p ∧ ChgF F b w w2) := ⟨⟨_, _, _, _, _, _, _, _, _, H2.out.new_ hg2⟩, ChgF.of (S := []) ((H1.out.2.2.alloc _).trans hg2) H0.out.1.base (by simp)⟩
      clear hg2
      go_wp2_with fail
      go_returns
      exact .inl ⟨rfl, HF.out.1, HF.out.2⟩
  · have S1 := Lib.hid (say_long C0 0 v0 p.e0 (eMsg m) (some ⟨w1.heap.size, 0, none⟩) _ hr1 hl)
    have H2 := Lib.hid hP2
    clear hr1 hP2 hl
    go_wp2_with fail
    (with_reducible refine S1.out.mono ?_)
    rintro e w2 ⟨rfl, hg2⟩
    have HF : Hid (PairIn w2 F b P C0 p ∧ ChgF F b w w2) := ⟨⟨_, _, _, _, _, _, _, _, _, H2.out.new_ hg2⟩, ChgF.of (S := []) ((H1.out.2.2.alloc _).trans hg2) H0.out.1.base (by simp)⟩
    clear hg2
    go_wp2_with fail
    go_returns
    exact .inl ⟨rfl, HF.out.1, HF.out.2⟩

/-- node 1 says a message -/
abbrev say1 (p : Pair Msg) (m : Msg) : Pair Msg := { p with e1 := { p.e1 with wait := p.e1.wait ++ [m] } }

set_option maxHeartbeats 2000000 in
set_option maxRecDepth 100000 in
/-- it may not be -/
theorem says1_bad (w : World) (F : List Nat) (b P C0 : Nat) (p : Pair Msg) (g : Value) (m : Msg) (s1 s2 s3 : Option Addr × Nat) (h : PairIn w F b P C0 p) (hm : MsgIn w m s1 s2 s3) (hck : chkMsg m = false) :
    Calls Try.prog 6 #[ptrV P, .int .i64 1, msgV m s1 s2 s3, g] w fun e w' => e = .returned g ∧ PairIn w' F b P C0 p ∧ ChgF F b w w' := by
  obtain ⟨C1, N, v0, v1, vn, g0, g1, x0, x1, h⟩ := h
  have hg := (Chg.refl [] w).alloc (.cells #[i64 m.kind, i64 m.t, i64 m.n, .slice s1.1 m.cmds.length s1.2, .slice s2.1 m.buns.length s2.2, .slice s3.1 m.ids.length s3.2] 36)
  have E1 := Lib.hid (enc_bad m s1 s2 s3 _ (hm.new_ hg) hck)
  have HG := Lib.hid hg
  have H := Lib.hid h
  clear h hm hck hg
  go_enter Try.func6, Try.ntmps6
  go_wp2_with fail
  (with_reducible refine E1.out.mono ?_)
  rintro e w1 ⟨rfl, hg1⟩
  go_wp2_with fail
  go_returns
  exact ⟨rfl, ⟨_, _, _, _, _, _, _, _, _, (H.out.new_ HG.out).new_ hg1⟩, ChgF.of (S := []) (HG.out.trans hg1) H.out.base (by simp)⟩

set_option maxHeartbeats 2000000 in
set_option maxRecDepth 100000 in
theorem says1_any (w : World) (F : List Nat) (b P C0 : Nat) (p : Pair Msg) (g : Value) (x : List HM) (m : Msg) (s1 s2 s3 : Option Addr × Nat) (h : PairIn w F b P C0 p) (hm : MsgIn w m s1 s2 s3) (hck : chkMsg m = true) (hw : p.e1.wait.length ≤ 1024)
    (hg : w.ownsRow 0 36 6 g x.length (x.flatMap msgC)) (hx : x.length ≤ 1000000000) (hsep : ∀ q ∈ rowOf g, q ∉ F ∧ q < b) (hFb : ∀ q ∈ F, q < b) :
    Calls Try.prog 6 #[ptrV P, .int .i64 1, msgV m s1 s2 s3, g] w (SaysR w F b P C0 g x ⟨m, s1, s2, s3⟩ p (say1 p m) (chkMsg m = true ∧ (eMsg m).length ≤ 65472 ∧ p.e1.wait.length < 1024)) := by
  obtain ⟨C1, N, v0, v1, vn, g0, g1, x0, x1, h⟩ := h
  obtain ⟨i0, hi0, hz0, hz1, hz2⟩ := info_parts infoMsg
  have hgA := (Chg.refl [] w).alloc (.cells #[i64 m.kind, i64 m.t, i64 m.n, .slice s1.1 m.cmds.length s1.2, .slice s2.1 m.buns.length s2.2, .slice s3.1 m.ids.length s3.2] 36)
  have hM := Blk.new w 36 #[i64 m.kind, i64 m.t, i64 m.n, .slice s1.1 m.cmds.length s1.2, .slice s2.1 m.buns.length s2.2, .slice s3.1 m.ids.length s3.2]
  have E1 := Lib.hid (enc_any m s1 s2 s3 _ (hm.new_ hgA) hck)
  have H0 := Lib.hid (And.intro h (And.intro hg (And.intro hsep (And.intro hgA (And.intro hM (And.intro hck (And.intro hw hFb)))))))
  obtain ⟨GA, GC, hGG⟩ := own_slice' hg
  have HGG := Lib.hid hGG
  obtain ⟨xn, hxn⟩ : ∃ xn, x.length = xn := ⟨_, rfl⟩
  have HXN := Lib.hid hxn
  rw [hxn] at hx hGG
  clear h hm hck hgA hM hw hg hsep hFb hxn
  subst hGG
  go_enter Try.func6, Try.ntmps6
  go_wp2_with fail
  (with_reducible refine E1.out.mono ?_)
  rintro e w1 ⟨rfl, hg1⟩
  have hP1 := (H0.out.1.new_ H0.out.2.2.2.1).new_ hg1
  have hM1 := H0.out.2.2.2.2.1.chg hg1 (by simp)
  have cE : w1.cell? ⟨P, 1, none⟩ = some (ptrV C1) := hP1.blk.cell 1
  have hW1 : Chg [] w w1 := H0.out.2.2.2.1.trans hg1
  have H1 := Lib.hid (And.intro hP1 (And.intro hM1 hW1))
  clear hP1 hM1 hg1 hW1 E1
  have hlm : (eMsg m).length ≤ 65472 ∨ 65472 < (eMsg m).length := by omega
  have hr1 : Rd (w1.alloc (.cells #[strV (eMsg m)] 9)) 1 (some ⟨w1.heap.size, 0, none⟩) 1 [strV (eMsg m)] := rd_box _ _ rfl _ _
  have hP2 := H1.out.1.new_ ((Chg.refl [] w1).alloc (.cells #[strV (eMsg m)] 9))
  rcases hlm with hl | hl
  · rcases Nat.lt_or_ge p.e1.wait.length 1024 with hw | hw
    · have S1 := Lib.hid (say_any C1 0 v1 p.e1 m (some ⟨w1.heap.size, 0, none⟩) _ hP2.c1 (by omega) hr1 hl hw)
      have H2 := Lib.hid (And.intro hP2 (And.intro hl hw))
      clear hr1 hP2 hl hw
      go_wp2_with fail
      (with_reducible refine S1.out.mono ?_)
      rintro e w2 ⟨rfl, v', hch, hlv, hg2⟩
      have hP3 := H2.out.1.upC1 hch hlv (hch.wait.lt (by simp)) hg2
      have hM2 : Blk w2 w.heap.size 36 #[i64 m.kind, i64 m.t, i64 m.n, .slice s1.1 m.cmds.length s1.2, .slice s2.1 m.buns.length s2.2, .slice s3.1 m.ids.length s3.2] := (H1.out.2.1.alloc (.cells #[strV (eMsg m)] 9)).chg hg2 (fun hm => by have := (H0.out.1.lt (C1 :: rowOf v1) (by simp) _ hm).2; omega)
      have hgA : Chg [] w (w1.alloc (.cells #[strV (eMsg m)] 9)) := H1.out.2.2.alloc _
      have hnS : ∀ q ∈ C1 :: rowOf v1, q ∉ rowOf (.slice GA xn GC) := fun q hq hm => by
        have e1 := H0.out.2.2.1 q hm
        rcases (H0.out.1.lt (C1 :: rowOf v1) (by simp) q hq).1 with h | h
        · exact e1.1 h
        · omega
      have hown2 : w2.ownsRow 0 36 6 (.slice GA xn GC) xn (x.flatMap msgC) := by
        have h1 := own_chg (own_chg H0.out.2.1 hgA (by simp)) hg2 (fun q hq hm => hnS q hm (by rw [rowOf, hq]; simp))
        rw [HXN.out] at h1; exact h1
      have kM := fun i => hM2.cell i
      have hbase : b ≤ w.heap.size := H0.out.1.base
      have hC2 : ChgF (rowOf (.slice GA xn GC) ++ F) b w w2 := (ChgF.of (S := []) hgA hbase (by simp)).trans (ChgF.of hg2 H2.out.1.base (fun q hq => by
        rcases (H0.out.1.lt (C1 :: rowOf v1) (by simp) q hq).1 with h | h
        · exact .inl (List.mem_append_right _ h)
        · exact .inr h))
      have HO := Lib.hid (And.intro hown2 (And.intro hP3 (And.intro hC2 hM2)))
      clear hch hlv hg2 hP3 hM2 hgA hnS hown2 hC2 cE S1
      go_wp2_with (at_builtin; refine wpList_append_own_at _ rfl (.tmp 31) (.tmp 33) 22 rfl 0 36 i0 _ 6 96 Try.underlying22 hi0 hz0 hz1 hz2 rfl (by decide) (.slice GA xn GC) xn (x.flatMap msgC) rfl (HO.out.1.alloc _) ⟨w2.heap.size, 0, none⟩ 1 1 (msgC ⟨m, s1, s2, s3⟩) rfl rfl (World.news_of_block (Blk.new w2 36 #[i64 m.kind, i64 m.t, i64 m.n, .slice s1.1 m.cmds.length s1.2, .slice s2.1 m.buns.length s2.2, .slice s3.1 m.ids.length s3.2])) (by simp [Value.oneCell']) (by unfold maxLen; omega) (by omega) (by omega) ?_)
      intro v4 w4 hown4 hgrow hnil hat
      obtain ⟨B4, c4, rfl⟩ := own_slice' hown4
      obtain ⟨hown2, hP3, hC2, hM2⟩ := HO.out
      have hgG : Chg (rowOf (.slice GA xn GC)) w2 w4 := ((Chg.refl _ w2).alloc _).then_ (Chg.of_grown (S := rowOf (.slice GA xn GC)) hgrow (fun q e => .inl (by rw [rowOf, e]; simp))) (fun _ _ h => h)
      have hsepP : ∀ q ∈ rowOf (.slice GA xn GC), ∀ a ∈ parts7 P C0 C1 N _ _ vn g0 g1 x0 x1, q ∉ a := fun q hq a ha hm => by
        have e1 := H0.out.2.2.1 q hq
        rcases (hP3.lt a ha q hm).1 with h | h
        · exact e1.1 h
        · omega
      have hP4 := hP3.far hgG hsepP
      have hs4 : w2.heap.size ≤ w4.heap.size := hgG.size
      have hC4 : ChgF (rowOf (.slice GA xn GC) ++ F) b w w4 := hC2.trans (ChgF.of hgG hP3.base (fun q hq => .inl (List.mem_append_left _ hq)))
      have hin : PairIn w4 (F ++ List.range' b (w2.heap.size - b)) w4.heap.size P C0 (say1 p m) := ⟨_, _, _, _, _, _, _, _, _, hP4.frame (Nat.le_refl _) (fun a ha q hq => .inl (by
        have e1 := hP3.lt a ha q hq
        rcases e1.1 with h1 | h1
        · exact List.mem_append_left _ h1
        · exact List.mem_append_right _ (by rw [List.mem_range'_1]; omega)))⟩
      have hF' : ∀ q ∈ F ++ List.range' b (w2.heap.size - b), (q ∈ F ∨ b ≤ q) ∧ q < w4.heap.size ∧ q ∉ rowOf (.slice B4 (xn + 1) c4) := fun q hq => by
        have e1 := reframe_mem hq hP3.base H0.out.2.2.2.2.2.2.2
        refine ⟨e1.1, by omega, fun hm => ?_⟩
        rcases hat with h | h
        · have hm2 : q ∈ rowOf (.slice GA xn GC) := by rw [rowOf] at hm ⊢; rw [← h]; exact hm
          have e2 := H0.out.2.2.1 q hm2
          rcases e1.1 with h1 | h1
          · exact e2.1 h1
          · omega
        · rw [rowOf, h] at hm
          simp at hm
          omega
      have hL4 : Lies w (.slice GA xn GC) (.slice B4 (xn + 1) c4) := by
        have := Lies.of_at (w := w) (w1 := w2.alloc (.cells #[i64 m.kind, i64 m.t, i64 m.n, .slice s1.1 m.cmds.length s1.2, .slice s2.1 m.buns.length s2.2, .slice s3.1 m.ids.length s3.2] 36)) (by rw [World.size_alloc]; exact hat) (by have := hC2.size; simp; omega)
        exact this
      have hown5 : w4.ownsRow 0 36 6 (.slice B4 (xn + 1) c4) (x.length + 1) ((x ++ [(⟨m, s1, s2, s3⟩ : HM)]).flatMap msgC) := by
        rw [HXN.out, List.flatMap_append]; exact hown4
      have HF := Lib.hid (And.intro hin (And.intro hF' (And.intro hown5 (And.intro hL4 hC4))))
      clear hown2 hP3 hC2 hM2 hgG hsepP hP4 hs4 hC4 hin hF' hL4 hown5 hown4 hgrow hnil hat kM
      go_wp2_with fail
      go_returns
      exact .inr ⟨⟨H0.out.2.2.2.2.2.1, H2.out.2.1, H2.out.2.2⟩, _, _, rfl, HF.out.1, HF.out.2.1, HF.out.2.2.1, HF.out.2.2.2.1, HF.out.2.2.2.2⟩
    · have S1 := Lib.hid (say_full C1 0 v1 p.e1 (eMsg m) (some ⟨w1.heap.size, 0, none⟩) _ hP2.c1 hr1 hl hw H0.out.2.2.2.2.2.2.1)
      have H2 := Lib.hid hP2
      clear hr1 hP2 hl hw
      go_wp2_with fail
      (with_reducible refine S1.out.mono ?_)
      rintro e w2 ⟨rfl, hg2⟩
      have HF : Hid (PairIn w2 F b P C0 p ∧ ChgF F b w w2) := ⟨⟨_, _, _, _, _, _, _, _, _, H2.out.new_ hg2⟩, ChgF.of (S := []) ((H1.out.2.2.alloc _).trans hg2) H0.out.1.base (by simp)⟩
      clear hg2
      go_wp2_with fail
      go_returns
      exact .inl ⟨rfl, HF.out.1, HF.out.2⟩
  · have S1 := Lib.hid (say_long C1 0 v1 p.e1 (eMsg m) (some ⟨w1.heap.size, 0, none⟩) _ hr1 hl)
    have H2 := Lib.hid hP2
    clear hr1 hP2 hl
    go_wp2_with fail
    (with_reducible refine S1.out.mono ?_)
    rintro e w2 ⟨rfl, hg2⟩
    have HF : Hid (PairIn w2 F b P C0 p ∧ ChgF F b w w2) := ⟨⟨_, _, _, _, _, _, _, _, _, H2.out.new_ hg2⟩, ChgF.of (S := []) ((H1.out.2.2.alloc _).trans hg2) H0.out.1.base (by simp)⟩
    clear hg2
    go_wp2_with fail
    go_returns
    exact .inl ⟨rfl, HF.out.1, HF.out.2⟩
end Go.Proofs.Yteajdkneiejlaaa

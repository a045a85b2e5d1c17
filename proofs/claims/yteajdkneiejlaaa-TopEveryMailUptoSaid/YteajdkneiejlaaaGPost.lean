/- The walk of top's post, of node 0 and of node 1. (made by a small program) -/
import Derived.Test.YteajdkneiejlaaaGPair
namespace Go.Proofs.Yteajdkneiejlaaa
open Go.RowKit Hg

/-- a pair in memory, its parts somewhere -/
def PairIn (w : World) (F : List Nat) (b P C0 : Nat) (p : Pair Msg) : Prop := ∃ C1 N v0 v1 vn g0 g1 x0 x1, PairAt w F b P C0 C1 N v0 v1 vn g0 g1 p x0 x1
/-- what a step leaves -/
def StepR (w : World) (F : List Nat) (b P C0 : Nat) (p : Pair Msg) (e : Ending) (w' : World) : Prop := (∃ u, e = .returned u) ∧ PairIn w' F b P C0 p ∧ ChgF F b w w'

theorem rd_pack (w : World) (g : Nat) (hg : g = w.heap.size) (t : TypeId) (u v x : Value) : Rd (w.alloc (.cells #[u, v, x] t)) 3 (some ⟨g, 0, none⟩) 1 [u, v, x] := by
  subst hg
  refine ⟨rfl, fun _ => ⟨_, rfl, fun j z hz => ?_⟩⟩
  match j, hz with
  | 0, hz => rw [← hz]; exact (Blk.new w t #[u, v, x]).cell 0
  | 1, hz => rw [← hz]; exact (Blk.new w t #[u, v, x]).cell 1
  | 2, hz => rw [← hz]; exact (Blk.new w t #[u, v, x]).cell 2

theorem sent_snoc {net L : List (Pk Msg)} (x : Pk Msg) (h : net.length ≤ 4096) : sent net (L ++ [x]) = if (sent net L).length < 4096 then sent net L ++ [x] else sent net L := by
  unfold sent
  rcases Nat.lt_or_ge L.length (4096 - net.length) with h1 | h1
  · rw [List.take_of_length_le (by simp; omega), List.take_of_length_le (by omega), if_pos (by simp; omega), List.append_assoc]
  · rw [if_neg (by simp; omega), List.take_append_of_le_length h1]
theorem take_snoc' {l : List (Hg.Post Msg)} {k : Nat} {x : Hg.Post Msg} (h : l[k]? = some x) : l.take (k + 1) = l.take k ++ [x] := by
  rw [List.take_add_one, h]; rfl
theorem ePk_len {a b c d : Int} {t : Bytes} (h : PkCan a b c d t) : (ePk a b c d t).length ≤ 65536 := by
  have hx : ∀ x ∈ [a, b, c, d], I64 x := by
    intro x hx
    have := h.a0; have := h.a1; have := h.b0; have := h.b1; have := h.c0; have := h.c1; have := h.d0; have := h.d1
    unfold I64
    simp at hx
    rcases hx with rfl | rfl | rfl | rfl <;> omega
  have l1 : (octs [a, b, c, d]).length ≤ 4 * 9 := octs_len hx
  have h9 : (octs [((t.length : Nat) : Int)]).length ≤ 1 * 9 := octs_len (by have := h.t1; simp [I64]; omega)
  rw [octs_one] at h9
  have := h.t1
  simp only [ePk, eText, List.length_append]; omega

/-- node 0 has sent the first k of what it posts -/
abbrev sent0 (p : Pair Msg) (k : Nat) : Pair Msg := { p with e0 := p.e0.posted, net := sent p.net ((p.e0.posts.take k).map fun x => ⟨0, 1 - 0, x⟩) }
/-- in the midst of post -/
def PostLoop0 (w : World) (F : List Nat) (b P C0 C1 N : Nat) (v0 v1 g0 g1 : Value) (p : Pair Msg) (x0 x1 : List HM) (A : Option Addr) (i : Value) (wr : World) : Prop :=
  ∃ k vn, k ≤ p.e0.posts.length ∧ i = .int .i64 (k : Nat) ∧ PairAt wr F b P C0 C1 N v0 v1 vn g0 g1 (sent0 p k) x0 x1 ∧ Rd wr 5 A p.e0.posts.length (p.e0.posts.flatMap postC) ∧ ChgF F b w wr ∧ ∀ q ∈ blkOf A, q ≠ P ∧ q ∉ N :: rowOf vn

set_option maxHeartbeats 2000000 in
set_option maxRecDepth 100000 in
theorem post0_any (w : World) (F : List Nat) (b P C0 : Nat) (p : Pair Msg) (h : PairIn w F b P C0 p) (hok : ∀ x ∈ p.e0.posts, PkCan x.mine x.yours x.ack x.seq (tb x.text)) (hf0 : 0 ≤ p.e0.first) (hf1 : p.e0.first ≤ 1099511627776) (hpl : p.e0.posts.length ≤ 1000) :
    Calls Try.prog 8 #[ptrV P, .int .i64 0] w (StepR w F b P C0 (p.post 0)) := by
  obtain ⟨C1, N, v0, v1, vn, g0, g1, x0, x1, h⟩ := h
  have cE : w.cell? ⟨P, 0, none⟩ = some (ptrV C0) := h.blk.cell 0
  have O1 := Lib.hid (posts_any C0 0 v0 p.e0 w h.c0 hf0 hf1)
  have H := Lib.hid h
  have HOK := Lib.hid hok
  have hfin : sent0 p p.e0.posts.length = p.post 0 := by
    show ({ p with e0 := _, net := _ } : Pair Msg) = _
    rw [List.take_length]; rfl
  have HF := Lib.hid hfin
  have hstart : sent0 p 0 = { p with e0 := p.e0.posted } := by
    show ({ p with e0 := _, net := _ } : Pair Msg) = _
    simp [sent]
  have HS := Lib.hid hstart
  obtain ⟨n, hn⟩ : ∃ n, p.e0.posts.length = n := ⟨_, rfl⟩
  have HN := Lib.hid hn
  rw [hn] at hpl
  clear h hok hf0 hf1 hfin hstart hn
  go_enter Try.func8, Try.ntmps8
  go_wp2_with fail
  (with_reducible refine O1.out.mono ?_)
  rintro e w1 ⟨A, cp, rfl, hrd, hnew, hch, hg1⟩
  have hg1' : Chg (C0 :: rowOf v0) w w1 := hg1.mono (by intro k _ hk; simp at hk; subst hk; simp)
  have hP1 : PairAt w1 F b P C0 C1 N v0 v1 vn g0 g1 { p with e0 := p.e0.posted } x0 x1 := H.out.upC0 hch (Lies.refl _ _) (fun q hq => by have := H.out.lt (C0 :: rowOf v0) (by simp) q (List.mem_cons_of_mem _ hq); have := hg1.size; omega) hg1'
  have hC1 : ChgF F b w w1 := ChgF.of hg1' H.out.base (fun q hq => (H.out.lt (C0 :: rowOf v0) (by simp) q hq).1)
  have hA1 : ∀ q ∈ blkOf A, q ≠ P ∧ q ∉ N :: rowOf vn := fun q hq => ⟨by have := hnew q hq; have := H.out.blk.lt; omega, fun hm => by have := hnew q hq; have := H.out.lt (N :: rowOf vn) (by simp) q hm; omega⟩
  rw [HN.out]
  have HL := Lib.hid (And.intro hP1 (And.intro hrd (And.intro hC1 hA1)))
  clear cE O1 hrd hnew hch hg1 hg1' hP1 hC1 hA1
  go_wp2_with fail
  go_loopw [5, 6, 7, 8, 9] (fun i _ _ _ _ wr => PostLoop0 w F b P C0 C1 N v0 v1 g0 g1 p x0 x1 A i wr) (fun i _ _ _ _ _ => n - (intOf i).toNat)
  case atStart =>
    obtain ⟨hP1, hrd, hC1, hA1⟩ := HL.out
    exact ⟨0, vn, by omega, rfl, by rw [HS.out]; exact hP1, hrd, hC1, hA1⟩
  case round =>
    obtain ⟨k, vn', hk, rfl, hP, hrd, hC, hA⟩ := hrel
    clear HL
    rw [HN.out] at hk
    rcases Nat.lt_or_ge k n with hlt | hge
    · have hkl : k < p.e0.posts.length := by rw [HN.out]; exact hlt
      obtain ⟨ad, rfl, hel⟩ := rd_elem (size := 5) (enc := postC) (fun _ => rfl) hrd rfl (List.getElem?_eq_getElem hkl)
      have hxk := Lib.hid (take_snoc' (List.getElem?_eq_getElem hkl))
      have hcan := HOK.out _ (List.getElem_mem hkl)
      generalize p.e0.posts[k] = x at hel hxk hcan
      have c0 : wr.cell? (ad.add (k * 5)) = some (i64 x.mine) := by have := hel 0 _ rfl; simpa [Addr.add] using this
      have c1 : wr.cell? ⟨(ad.add (k * 5)).block, (ad.add (k * 5)).off + 1, none⟩ = some (i64 x.yours) := hel 1 _ rfl
      have c2 : wr.cell? ⟨(ad.add (k * 5)).block, (ad.add (k * 5)).off + 2, none⟩ = some (i64 x.ack) := hel 2 _ rfl
      have c3 : wr.cell? ⟨(ad.add (k * 5)).block, (ad.add (k * 5)).off + 3, none⟩ = some (i64 x.seq) := hel 3 _ rfl
      have c4 : wr.cell? ⟨(ad.add (k * 5)).block, (ad.add (k * 5)).off + 4, none⟩ = some (strV (tb x.text)) := hel 4 _ rfl
      have E1 := Lib.hid (fun w => senc_any x.mine x.yours x.ack x.seq (tb x.text) w hcan)
      have hlen := Lib.hid (ePk_len hcan)
      have HP := Lib.hid (And.intro hP (And.intro hrd (And.intro hC hA)))
      have hPl : P < wr.heap.size := hP.blk.lt
      clear hP hrd hC hA hel hcan
      go_wp2_with fail
      (with_reducible refine (E1.out _).mono ?_)
      rintro e w2 ⟨rfl, hg2⟩
      have hP2 := HP.out.1.new_ hg2
      have d2 : w2.cell? ⟨P, 2, none⟩ = some (ptrV N) := hP2.blk.cell 2
      clear c0 c1 c2 c3 c4 E1
      have hP3 := hP2.new_ ((Chg.refl [] w2).alloc (.cells #[i64 0, i64 1, strV (ePk x.mine x.yours x.ack x.seq (tb x.text))] 45))
      have hr3 : Rd (w2.alloc (.cells #[i64 0, i64 1, strV (ePk x.mine x.yours x.ack x.seq (tb x.text))] 45)) 3 (some ⟨w2.heap.size, 0, none⟩) 1 [i64 0, i64 1, strV (ePk x.mine x.yours x.ack x.seq (tb x.text))] := rd_pack w2 _ rfl _ _ _ _
      have hA3 : ∀ q ∈ blkOf (some (⟨w2.heap.size, 0, none⟩ : Addr)), vn'.ownBlock ≠ some q ∧ q ≠ N := by
        intro q hq
        simp [blkOf] at hq
        subst hq
        refine ⟨fun e => ?_, fun e => ?_⟩
        · have := hP2.lt (N :: rowOf vn') (by simp) w2.heap.size (List.mem_cons_of_mem _ (by rw [rowOf, e]; simp)); omega
        · have := hP2.lt (N :: rowOf vn') (by simp) w2.heap.size (by simp [e]); omega
      have hsn : sent0 p (k + 1) = { sent0 p k with net := if (sent0 p k).net.length < 4096 then (sent0 p k).net ++ [⟨0, 1 - 0, x⟩] else (sent0 p k).net } := by
        show ({ p with e0 := _, net := _ } : Pair Msg) = _
        rw [hxk.out, List.map_append]
        show ({ p with e0 := _, net := sent p.net (_ ++ [⟨0, 1 - 0, x⟩]) } : Pair Msg) = _
        rw [sent_snoc _ H.out.room]
      have HSN := Lib.hid hsn
      clear hsn
      have S1 : Hid (Calls Try.prog 22 #[ptrV N, .slice (some ⟨w2.heap.size, 0, none⟩) 1 1] (w2.alloc (.cells #[i64 0, i64 1, strV (ePk x.mine x.yours x.ack x.seq (tb x.text))] 45)) fun e w' =>
          ∃ (r : Int) (vn2 : Value), e = .returned (.tuple #[.int .i64 r, .int .i64 0]) ∧ PairAt w' F b P C0 C1 N v0 v1 vn2 g0 g1 (sent0 p (k + 1)) x0 x1 ∧ Lies (w2.alloc (.cells #[i64 0, i64 1, strV (ePk x.mine x.yours x.ack x.seq (tb x.text))] 45)) vn' vn2 ∧ Chg (N :: rowOf vn') (w2.alloc (.cells #[i64 0, i64 1, strV (ePk x.mine x.yours x.ack x.seq (tb x.text))] 45)) w') := by
        have hroom := hP3.room
        rcases Nat.lt_or_ge (sent0 p k).net.length 4096 with hl | hl
        · refine (send_any N 0 _ vn' _ 0 _ _ _ hP3.net (by omega) hl (by decide) hlen.out hr3 hA3).mono ?_
          rintro e w' ⟨rfl, vn2, hN2, hL2, hg⟩
          refine ⟨0, vn2, rfl, ?_, hL2, hg⟩
          rw [HSN.out, if_pos hl]
          refine hP3.upNet ?_ hL2 hg (by rw [List.length_append]; exact hl)
          rw [List.flatMap_append, List.length_append]
          exact hN2
        · have he : (sent0 p k).net.length = 4096 := by omega
          refine (send_full N 0 _ vn' _ 0 _ _ _ hP3.net (by omega) he (by decide) hlen.out hr3 hA3).mono ?_
          rintro e w' ⟨rfl, vn2, hN2, hL2, hg⟩
          refine ⟨1, vn2, rfl, ?_, hL2, hg⟩
          rw [HSN.out, if_neg (by omega)]
          exact hP3.upNet hN2 hL2 hg hroom
      clear hlen
      have hN2 := Lib.hid (And.intro hP3 (And.intro hr3 hA3))
      clear hP3 hr3 hA3 hxk HSN
      have HP2 := Lib.hid hP2
      clear hP2
      go_wp2_with fail
      (with_reducible refine S1.out.mono ?_)
      rintro e w3 ⟨r, vn2, rfl, hP4, hL4, hg4⟩
      have d5 : w3.cell? ⟨P, 5, none⟩ = some (.bool false) := hP4.blk.cell 5
      have f5 := hP4.blk.frozen 5
      have hP5 := hP4.setBad
      have hgA : Chg (N :: rowOf vn') w2 w3 := ((Chg.refl (N :: rowOf vn') w2).alloc _).trans hg4
      have hC4 : ChgF F b w w3 := (HP.out.2.2.1.trans (ChgF.of (S := []) hg2 HP.out.1.base (by simp))).trans (ChgF.of hgA HP2.out.base (fun q hq => (HP2.out.lt (N :: rowOf vn') (by simp) q hq).1))
      have hC5 : ChgF F b w (w3.setCell ⟨P, 5, none⟩ (.bool false)) := hC4.trans (ChgF.of ((Chg.refl [P] w3).setCell (.inl (by simp)) _) hP4.base (fun q hq => (hP4.lt [P] (by simp) q hq).1))
      have hbA : ∀ q ∈ blkOf (some ad), q < wr.heap.size := fun q hq => by
        simp [blkOf] at hq; subst hq
        obtain ⟨ad', e, hc⟩ := HP.out.2.1.2 (by rw [HN.out]; omega)
        cases e
        have hl0 : 0 < (p.e0.posts.flatMap postC).length := by have := HP.out.2.1.1; rw [this, HN.out]; omega
        have := cell_lt (hc 0 _ (List.getElem?_eq_getElem hl0))
        rwa [block_add] at this
      have hrd5 : Rd (w3.setCell ⟨P, 5, none⟩ (.bool false)) 5 (some ad) p.e0.posts.length (p.e0.posts.flatMap postC) := by
        refine ((HP.out.2.1.new_ hg2).chg hgA (fun q hq _ hm => (HP.out.2.2.2 q hm).2 hq)).set_far (fun _ hm => ?_) _
        exact (HP.out.2.2.2 P hm).1 rfl
      have hA5 : ∀ q ∈ blkOf (some ad), q ≠ P ∧ q ∉ N :: rowOf vn2 := fun q hq => ⟨(HP.out.2.2.2 q hq).1, fun hm => by
        rcases List.mem_cons.1 hm with rfl | hm
        · exact (HP.out.2.2.2 q hq).2 (by simp)
        · rcases hL4 q hm with h1 | h1
          · exact (HP.out.2.2.2 q hq).2 (List.mem_cons_of_mem _ h1)
          · have := hbA q hq; have := hg2.size; simp at h1; omega⟩
      have HR := Lib.hid (And.intro hP5 (And.intro hrd5 (And.intro hC5 hA5)))
      clear hP4 hP5 hL4 hg4 hgA hC4 hC5 hbA hrd5 hA5 S1 d2
      go_wp2_with fail
      go_roundw
      case rel =>
        obtain ⟨hP5, hrd5, hC5, hA5⟩ := HR.out
        exact ⟨k + 1, vn2, by rw [HN.out]; omega, by go_num, hP5, hrd5, hC5, hA5⟩
      case measure => simp [intOf]; omega
    · have : k = n := by omega
      subst this
      have HR := Lib.hid (And.intro hP hC)
      clear hP hrd hC hA
      go_wp2_with fail
      refine bodyPost_ret (results_none rfl _ _ _) rfl ?_
      obtain ⟨hP, hC⟩ := HR.out
      rw [← HN.out, HF.out] at hP
      exact ⟨⟨_, rfl⟩, ⟨_, _, _, _, _, _, _, _, _, hP⟩, hC⟩

/-- node 1 has sent the first k of what it posts -/
abbrev sent1 (p : Pair Msg) (k : Nat) : Pair Msg := { p with e1 := p.e1.posted, net := sent p.net ((p.e1.posts.take k).map fun x => ⟨1, 1 - 1, x⟩) }
/-- in the midst of post -/
def PostLoop1 (w : World) (F : List Nat) (b P C0 C1 N : Nat) (v0 v1 g0 g1 : Value) (p : Pair Msg) (x0 x1 : List HM) (A : Option Addr) (i : Value) (wr : World) : Prop :=
  ∃ k vn, k ≤ p.e1.posts.length ∧ i = .int .i64 (k : Nat) ∧ PairAt wr F b P C0 C1 N v0 v1 vn g0 g1 (sent1 p k) x0 x1 ∧ Rd wr 5 A p.e1.posts.length (p.e1.posts.flatMap postC) ∧ ChgF F b w wr ∧ ∀ q ∈ blkOf A, q ≠ P ∧ q ∉ N :: rowOf vn

set_option maxHeartbeats 2000000 in
set_option maxRecDepth 100000 in
theorem post1_any (w : World) (F : List Nat) (b P C0 : Nat) (p : Pair Msg) (h : PairIn w F b P C0 p) (hok : ∀ x ∈ p.e1.posts, PkCan x.mine x.yours x.ack x.seq (tb x.text)) (hf0 : 0 ≤ p.e1.first) (hf1 : p.e1.first ≤ 1099511627776) (hpl : p.e1.posts.length ≤ 1000) :
    Calls Try.prog 8 #[ptrV P, .int .i64 1] w (StepR w F b P C0 (p.post 1)) := by
  obtain ⟨C1, N, v0, v1, vn, g0, g1, x0, x1, h⟩ := h
  have cE : w.cell? ⟨P, 1, none⟩ = some (ptrV C1) := h.blk.cell 1
  have O1 := Lib.hid (posts_any C1 0 v1 p.e1 w h.c1 hf0 hf1)
  have H := Lib.hid h
  have HOK := Lib.hid hok
  have hfin : sent1 p p.e1.posts.length = p.post 1 := by
    show ({ p with e1 := _, net := _ } : Pair Msg) = _
    rw [List.take_length]; rfl
  have HF := Lib.hid hfin
  have hstart : sent1 p 0 = { p with e1 := p.e1.posted } := by
    show ({ p with e1 := _, net := _ } : Pair Msg) = _
    simp [sent]
  have HS := Lib.hid hstart
  obtain ⟨n, hn⟩ : ∃ n, p.e1.posts.length = n := ⟨_, rfl⟩
  have HN := Lib.hid hn
  rw [hn] at hpl
  clear h hok hf0 hf1 hfin hstart hn
  go_enter Try.func8, Try.ntmps8
  go_wp2_with fail
  (with_reducible refine O1.out.mono ?_)
  rintro e w1 ⟨A, cp, rfl, hrd, hnew, hch, hg1⟩
  have hg1' : Chg (C1 :: rowOf v1) w w1 := hg1.mono (by intro k _ hk; simp at hk; subst hk; simp)
  have hP1 : PairAt w1 F b P C0 C1 N v0 v1 vn g0 g1 { p with e1 := p.e1.posted } x0 x1 := H.out.upC1 hch (Lies.refl _ _) (fun q hq => by have := H.out.lt (C1 :: rowOf v1) (by simp) q (List.mem_cons_of_mem _ hq); have := hg1.size; omega) hg1'
  have hC1 : ChgF F b w w1 := ChgF.of hg1' H.out.base (fun q hq => (H.out.lt (C1 :: rowOf v1) (by simp) q hq).1)
  have hA1 : ∀ q ∈ blkOf A, q ≠ P ∧ q ∉ N :: rowOf vn := fun q hq => ⟨by have := hnew q hq; have := H.out.blk.lt; omega, fun hm => by have := hnew q hq; have := H.out.lt (N :: rowOf vn) (by simp) q hm; omega⟩
  rw [HN.out]
  have HL := Lib.hid (And.intro hP1 (And.intro hrd (And.intro hC1 hA1)))
  clear cE O1 hrd hnew hch hg1 hg1' hP1 hC1 hA1
  go_wp2_with fail
  go_loopw [5, 6, 7, 8, 9] (fun i _ _ _ _ wr => PostLoop1 w F b P C0 C1 N v0 v1 g0 g1 p x0 x1 A i wr) (fun i _ _ _ _ _ => n - (intOf i).toNat)
  case atStart =>
    obtain ⟨hP1, hrd, hC1, hA1⟩ := HL.out
    exact ⟨0, vn, by omega, rfl, by rw [HS.out]; exact hP1, hrd, hC1, hA1⟩
  case round =>
    obtain ⟨k, vn', hk, rfl, hP, hrd, hC, hA⟩ := hrel
    clear HL
    rw [HN.out] at hk
    rcases Nat.lt_or_ge k n with hlt | hge
    · have hkl : k < p.e1.posts.length := by rw [HN.out]; exact hlt
      obtain ⟨ad, rfl, hel⟩ := rd_elem (size := 5) (enc := postC) (fun _ => rfl) hrd rfl (List.getElem?_eq_getElem hkl)
      have hxk := Lib.hid (take_snoc' (List.getElem?_eq_getElem hkl))
      have hcan := HOK.out _ (List.getElem_mem hkl)
      generalize p.e1.posts[k] = x at hel hxk hcan
      have c0 : wr.cell? (ad.add (k * 5)) = some (i64 x.mine) := by have := hel 0 _ rfl; simpa [Addr.add] using this
      have c1 : wr.cell? ⟨(ad.add (k * 5)).block, (ad.add (k * 5)).off + 1, none⟩ = some (i64 x.yours) := hel 1 _ rfl
      have c2 : wr.cell? ⟨(ad.add (k * 5)).block, (ad.add (k * 5)).off + 2, none⟩ = some (i64 x.ack) := hel 2 _ rfl
      have c3 : wr.cell? ⟨(ad.add (k * 5)).block, (ad.add (k * 5)).off + 3, none⟩ = some (i64 x.seq) := hel 3 _ rfl
      have c4 : wr.cell? ⟨(ad.add (k * 5)).block, (ad.add (k * 5)).off + 4, none⟩ = some (strV (tb x.text)) := hel 4 _ rfl
      have E1 := Lib.hid (fun w => senc_any x.mine x.yours x.ack x.seq (tb x.text) w hcan)
      have hlen := Lib.hid (ePk_len hcan)
      have HP := Lib.hid (And.intro hP (And.intro hrd (And.intro hC hA)))
      have hPl : P < wr.heap.size := hP.blk.lt
      clear hP hrd hC hA hel hcan
      go_wp2_with fail
      (with_reducible refine (E1.out _).mono ?_)
      rintro e w2 ⟨rfl, hg2⟩
      have hP2 := HP.out.1.new_ hg2
      have d2 : w2.cell? ⟨P, 2, none⟩ = some (ptrV N) := hP2.blk.cell 2
      clear c0 c1 c2 c3 c4 E1
      have hP3 := hP2.new_ ((Chg.refl [] w2).alloc (.cells #[i64 1, i64 0, strV (ePk x.mine x.yours x.ack x.seq (tb x.text))] 45))
      have hr3 : Rd (w2.alloc (.cells #[i64 1, i64 0, strV (ePk x.mine x.yours x.ack x.seq (tb x.text))] 45)) 3 (some ⟨w2.heap.size, 0, none⟩) 1 [i64 1, i64 0, strV (ePk x.mine x.yours x.ack x.seq (tb x.text))] := rd_pack w2 _ rfl _ _ _ _
      have hA3 : ∀ q ∈ blkOf (some (⟨w2.heap.size, 0, none⟩ : Addr)), vn'.ownBlock ≠ some q ∧ q ≠ N := by
        intro q hq
        simp [blkOf] at hq
        subst hq
        refine ⟨fun e => ?_, fun e => ?_⟩
        · have := hP2.lt (N :: rowOf vn') (by simp) w2.heap.size (List.mem_cons_of_mem _ (by rw [rowOf, e]; simp)); omega
        · have := hP2.lt (N :: rowOf vn') (by simp) w2.heap.size (by simp [e]); omega
      have hsn : sent1 p (k + 1) = { sent1 p k with net := if (sent1 p k).net.length < 4096 then (sent1 p k).net ++ [⟨1, 1 - 1, x⟩] else (sent1 p k).net } := by
        show ({ p with e1 := _, net := _ } : Pair Msg) = _
        rw [hxk.out, List.map_append]
        show ({ p with e1 := _, net := sent p.net (_ ++ [⟨1, 1 - 1, x⟩]) } : Pair Msg) = _
        rw [sent_snoc _ H.out.room]
      have HSN := Lib.hid hsn
      clear hsn
      have S1 : Hid (Calls Try.prog 22 #[ptrV N, .slice (some ⟨w2.heap.size, 0, none⟩) 1 1] (w2.alloc (.cells #[i64 1, i64 0, strV (ePk x.mine x.yours x.ack x.seq (tb x.text))] 45)) fun e w' =>
          ∃ (r : Int) (vn2 : Value), e = .returned (.tuple #[.int .i64 r, .int .i64 0]) ∧ PairAt w' F b P C0 C1 N v0 v1 vn2 g0 g1 (sent1 p (k + 1)) x0 x1 ∧ Lies (w2.alloc (.cells #[i64 1, i64 0, strV (ePk x.mine x.yours x.ack x.seq (tb x.text))] 45)) vn' vn2 ∧ Chg (N :: rowOf vn') (w2.alloc (.cells #[i64 1, i64 0, strV (ePk x.mine x.yours x.ack x.seq (tb x.text))] 45)) w') := by
        have hroom := hP3.room
        rcases Nat.lt_or_ge (sent1 p k).net.length 4096 with hl | hl
        · refine (send_any N 0 _ vn' _ 1 _ _ _ hP3.net (by omega) hl (by decide) hlen.out hr3 hA3).mono ?_
          rintro e w' ⟨rfl, vn2, hN2, hL2, hg⟩
          refine ⟨0, vn2, rfl, ?_, hL2, hg⟩
          rw [HSN.out, if_pos hl]
          refine hP3.upNet ?_ hL2 hg (by rw [List.length_append]; exact hl)
          rw [List.flatMap_append, List.length_append]
          exact hN2
        · have he : (sent1 p k).net.length = 4096 := by omega
          refine (send_full N 0 _ vn' _ 1 _ _ _ hP3.net (by omega) he (by decide) hlen.out hr3 hA3).mono ?_
          rintro e w' ⟨rfl, vn2, hN2, hL2, hg⟩
          refine ⟨1, vn2, rfl, ?_, hL2, hg⟩
          rw [HSN.out, if_neg (by omega)]
          exact hP3.upNet hN2 hL2 hg hroom
      clear hlen
      have hN2 := Lib.hid (And.intro hP3 (And.intro hr3 hA3))
      clear hP3 hr3 hA3 hxk HSN
      have HP2 := Lib.hid hP2
      clear hP2
      go_wp2_with fail
      (with_reducible refine S1.out.mono ?_)
      rintro e w3 ⟨r, vn2, rfl, hP4, hL4, hg4⟩
      have d5 : w3.cell? ⟨P, 5, none⟩ = some (.bool false) := hP4.blk.cell 5
      have f5 := hP4.blk.frozen 5
      have hP5 := hP4.setBad
      have hgA : Chg (N :: rowOf vn') w2 w3 := ((Chg.refl (N :: rowOf vn') w2).alloc _).trans hg4
      have hC4 : ChgF F b w w3 := (HP.out.2.2.1.trans (ChgF.of (S := []) hg2 HP.out.1.base (by simp))).trans (ChgF.of hgA HP2.out.base (fun q hq => (HP2.out.lt (N :: rowOf vn') (by simp) q hq).1))
      have hC5 : ChgF F b w (w3.setCell ⟨P, 5, none⟩ (.bool false)) := hC4.trans (ChgF.of ((Chg.refl [P] w3).setCell (.inl (by simp)) _) hP4.base (fun q hq => (hP4.lt [P] (by simp) q hq).1))
      have hbA : ∀ q ∈ blkOf (some ad), q < wr.heap.size := fun q hq => by
        simp [blkOf] at hq; subst hq
        obtain ⟨ad', e, hc⟩ := HP.out.2.1.2 (by rw [HN.out]; omega)
        cases e
        have hl0 : 0 < (p.e1.posts.flatMap postC).length := by have := HP.out.2.1.1; rw [this, HN.out]; omega
        have := cell_lt (hc 0 _ (List.getElem?_eq_getElem hl0))
        rwa [block_add] at this
      have hrd5 : Rd (w3.setCell ⟨P, 5, none⟩ (.bool false)) 5 (some ad) p.e1.posts.length (p.e1.posts.flatMap postC) := by
        refine ((HP.out.2.1.new_ hg2).chg hgA (fun q hq _ hm => (HP.out.2.2.2 q hm).2 hq)).set_far (fun _ hm => ?_) _
        exact (HP.out.2.2.2 P hm).1 rfl
      have hA5 : ∀ q ∈ blkOf (some ad), q ≠ P ∧ q ∉ N :: rowOf vn2 := fun q hq => ⟨(HP.out.2.2.2 q hq).1, fun hm => by
        rcases List.mem_cons.1 hm with rfl | hm
        · exact (HP.out.2.2.2 q hq).2 (by simp)
        · rcases hL4 q hm with h1 | h1
          · exact (HP.out.2.2.2 q hq).2 (List.mem_cons_of_mem _ h1)
          · have := hbA q hq; have := hg2.size; simp at h1; omega⟩
      have HR := Lib.hid (And.intro hP5 (And.intro hrd5 (And.intro hC5 hA5)))
      clear hP4 hP5 hL4 hg4 hgA hC4 hC5 hbA hrd5 hA5 S1 d2
      go_wp2_with fail
      go_roundw
      case rel =>
        obtain ⟨hP5, hrd5, hC5, hA5⟩ := HR.out
        exact ⟨k + 1, vn2, by rw [HN.out]; omega, by go_num, hP5, hrd5, hC5, hA5⟩
      case measure => simp [intOf]; omega
    · have : k = n := by omega
      subst this
      have HR := Lib.hid (And.intro hP hC)
      clear hP hrd hC hA
      go_wp2_with fail
      refine bodyPost_ret (results_none rfl _ _ _) rfl ?_
      obtain ⟨hP, hC⟩ := HR.out
      rw [← HN.out, HF.out] at hP
      exact ⟨⟨_, rfl⟩, ⟨_, _, _, _, _, _, _, _, _, hP⟩, hC⟩
end Go.Proofs.Yteajdkneiejlaaa

/- The walk of top's comes, of a packet to node 0 and to node 1. (made by a small program) -/
import Derived.Test.YteajdkneiejlaaaGPost
namespace Go.Proofs.Yteajdkneiejlaaa
open Go.RowKit Hg

theorem flat_get {α : Type} {enc : α → List Value} {size : Nat} (he : ∀ x, (enc x).length = size) : ∀ (l : List α) (i : Nat) (x : α), l[i]? = some x → ∀ j, j < size → (l.flatMap enc)[i * size + j]? = (enc x)[j]?
  | [], _, _, h, _, _ => by simp at h
  | y :: l, 0, x, h, j, hj => by
    simp only [List.getElem?_cons_zero, Option.some.injEq] at h
    subst h
    rw [Nat.zero_mul, Nat.zero_add, List.flatMap_cons, List.getElem?_append_left (by rw [he]; exact hj)]
  | y :: l, i + 1, x, h, j, hj => by
    rw [List.getElem?_cons_succ] at h
    rw [List.flatMap_cons, List.getElem?_append_right (by rw [he, Nat.add_mul]; omega), he]
    rw [← flat_get he l i x h j hj]
    congr 1
    rw [Nat.add_mul]; omega
theorem flat_take {α : Type} {enc : α → List Value} {size : Nat} (he : ∀ x, (enc x).length = size) (l : List α) (i : Nat) : (l.flatMap enc).take (i * size) = (l.take i).flatMap enc := by
  induction l generalizing i with
  | nil => simp
  | cons y l ih =>
    cases i with
    | zero => simp
    | succ i =>
      rw [List.flatMap_cons, List.take_succ_cons, List.flatMap_cons, ← ih i, Nat.add_mul, Nat.one_mul, Nat.add_comm, ← he y, List.take_length_add_append]
theorem flat_drop {α : Type} {enc : α → List Value} {size : Nat} (he : ∀ x, (enc x).length = size) (l : List α) (i : Nat) : (l.flatMap enc).drop (i * size) = (l.drop i).flatMap enc := by
  induction l generalizing i with
  | nil => simp
  | cons y l ih =>
    cases i with
    | zero => simp
    | succ i =>
      rw [List.flatMap_cons, List.drop_succ_cons, ← ih i, Nat.add_mul, Nat.one_mul, Nat.add_comm, ← he y, List.drop_length_add_append]
theorem flat_cut {α : Type} {enc : α → List Value} {size : Nat} (he : ∀ x, (enc x).length = size) (l : List α) (i : Nat) : cutAt size i (l.flatMap enc) = (l.eraseIdx i).flatMap enc := by
  unfold cutAt
  rw [flat_take he, flat_drop he, List.eraseIdx_eq_take_drop_succ, List.flatMap_append]

theorem PairIn.comesNet {w w' : World} {F : List Nat} {b P C0 C1 N : Nat} {v0 v1 vn vn' g0 g1 : Value} {p : Pair Msg} {x0 x1 : List HM} {j : Nat} (h : PairAt w F b P C0 C1 N v0 v1 vn g0 g1 p x0 x1) (hj : j < p.net.length) (hN : NetAt w' N 0 (p.net.length - 1) vn' (cutAt 3 j (p.net.flatMap packC))) (hl : Lies w vn vn') (hg : Chg (N :: rowOf vn) w w') :
    PairAt w' F b P C0 C1 N v0 v1 vn' g0 g1 { p with net := p.net.eraseIdx j } x0 x1 := by
  have hr := h.room
  have he : (p.net.eraseIdx j).length = p.net.length - 1 := by rw [List.length_eraseIdx_of_lt hj]
  refine h.upNet ?_ hl hg (by omega)
  rw [he, ← flat_cut (enc := packC) (size := 3) (fun _ => rfl)]
  exact hN
theorem infoMsg : (Try.prog.info? 36).map (fun i => (i.zero, i.size, i.bytes)) = some (some (.agg #[i64 0, i64 0, i64 0, .slice none 0 0, .slice none 0 0, .slice none 0 0]), 6, 96) := by kernel_rfl
/-- changes elsewhere -/
theorem PairAt.far {w w' : World} {F S : List Nat} {b P C0 C1 N : Nat} {v0 v1 vn g0 g1 : Value} {p : Pair Msg} {x0 x1 : List HM} (h : PairAt w F b P C0 C1 N v0 v1 vn g0 g1 p x0 x1) (hg : Chg S w w') (hS : ∀ q ∈ S, ∀ a ∈ parts7 P C0 C1 N v0 v1 vn g0 g1 x0 x1, q ∉ a) : PairAt w' F b P C0 C1 N v0 v1 vn g0 g1 p x0 x1 :=
  ⟨h.blk.chg hg (fun hm => hS P hm [P] (by simp) (by simp)), h.c0.chg hg (fun q hq => hS q hq _ (by simp)), h.c1.chg hg (fun q hq => hS q hq _ (by simp)), h.net.chg hg (fun q hq => hS q hq _ (by simp)), h.h0.chg hg (fun q hq => hS q hq _ (by simp)) (fun q hq hm => hS q hq (deep x0 ++ deep x1) (by simp) (by simp [hm])),
    h.h1.chg hg (fun q hq => hS q hq _ (by simp)) (fun q hq hm => hS q hq (deep x0 ++ deep x1) (by simp) (by simp [hm])), h.m0, h.m1, h.room, h.apart, fun a ha q hq => ⟨(h.lt a ha q hq).1, Nat.lt_of_lt_of_le (h.lt a ha q hq).2 hg.size⟩, Nat.le_trans h.base hg.size⟩
theorem pack_one (l : List (Pk Msg)) : ∀ v ∈ l.flatMap packC, v.oneCell' = true := by
  intro v hv
  obtain ⟨x, _, hx⟩ := List.mem_flatMap.1 hv
  simp [packC] at hx
  rcases hx with rfl | rfl | rfl <;> rfl


/-- a load, under a name that the region's walk does not take first (it would say a warning) -/
def ldOp (t : TypeId) (x : Operand) : Op := .load t x
set_option maxHeartbeats 4000000 in
set_option maxRecDepth 100000 in
theorem comes0_none (w : World) (F : List Nat) (b P C0 j : Nat) (p : Pair Msg) (x : Pk Msg) (h : PairIn w F b P C0 p) (hx : p.net[j]? = some x) (hto : x.to = 0) (hcan : PkCan x.post.mine x.post.yours x.post.ack x.post.seq (tb x.post.text)) (hst : p.e0.yours ≤ x.post.mine) (hts : 0 < x.post.seq → x.post.text.isSome = true)
    (hf0 : 0 ≤ p.e0.first) (hf1 : p.e0.first ≤ 1099511627776) (hl0 : 0 ≤ p.e0.last) (hl1 : p.e0.last ≤ 1099511627776) (hlw : p.e0.wait.length ≤ 1099511627776) (hm : p.e0.hearsText x.post = none) :
    Calls Try.prog 9 #[ptrV P, i64 (j : Int)] w (StepR w F b P C0 (p.comes j)) := by
  obtain ⟨C1, N, v0, v1, vn, g0, g1, x0, x1, h⟩ := h
  have hj : j < p.net.length := (List.getElem?_eq_some_iff.1 hx).1
  have d2 : w.cell? ⟨P, 2, none⟩ = some (ptrV N) := h.blk.cell 2
  have X := flat_get (enc := packC) (size := 3) (fun _ => rfl) p.net j x hx
  have T1 := Lib.hid (takeN_any N 0 p.net.length j vn (p.net.flatMap packC) x.frm 0 (ePk x.post.mine x.post.yours x.post.ack x.post.seq (tb x.post.text)) w h.net hj h.room (pack_one _) (X 0 (by decide)) (by have := X 1 (by decide); rw [this, ← hto]; rfl) (X 2 (by decide)))
  have D1 := Lib.hid (fun w => sdec_any x.post.mine x.post.yours x.post.ack x.post.seq (tb x.post.text) w hcan)
  have R1 := Lib.hid (fun (W : World) (hC : ChanAt W C0 0 v0 p.e0) => hear_any C0 0 v0 p.e0 x.post W hC hcan hst hts hf0 hf1 hl0 hl1 hlw)
  have hfin : p.comes j = { p with e0 := p.e0.hears x.post, h0 := p.h0 ++ (p.e0.hearsText x.post).toList, net := p.net.eraseIdx j } := by
    unfold Pair.comes
    rw [hx]
    simp [Pair.got, Pair.setE, Pair.addH, Pair.e, hto]
  rw [hm] at hfin R1
  have HF := Lib.hid hfin
  have H := Lib.hid h
  have HJ := Lib.hid hj
  obtain ⟨an, han⟩ : ∃ an, p.e0.anew x.post = an := ⟨_, rfl⟩
  rw [han] at R1
  clear X hx hto hcan hst hts hf0 hf1 hl0 hl1 hlw hm hfin h hj han
  go_enter Try.func9, Try.ntmps9
  go_wp2_with fail
  (with_reducible refine T1.out.mono ?_)
  rintro e w1 ⟨rfl, vn1, hN1, hL1, hg1⟩
  have hP1 := PairIn.comesNet H.out HJ.out hN1 hL1 hg1
  have HC1 : Hid (ChgF F b w w1) := ChgF.of hg1 H.out.base (fun q hq => (H.out.lt (N :: rowOf vn) (by simp) q hq).1)
  have HP1 := Lib.hid hP1
  have HS1 := Lib.hid hg1.size
  clear hN1 hL1 hg1 hP1 d2 T1
  go_wp2_with fail
  (with_reducible refine (D1.out _).mono ?_)
  rintro e w2 ⟨rfl, hg2⟩
  have hP2 := (HP1.out.new_ ((Chg.refl [] w1).alloc (.cells #[i64 x.frm, i64 0, strV (ePk x.post.mine x.post.yours x.post.ack x.post.seq (tb x.post.text))] 45))).new_ hg2
  have hK2 : Blk w2 w1.heap.size 45 #[i64 x.frm, i64 0, strV (ePk x.post.mine x.post.yours x.post.ack x.post.seq (tb x.post.text))] := (Blk.new w1 _ _).chg hg2 (by simp)
  have hC2 : ChgF F b w w2 := HC1.out.trans (ChgF.of (((Chg.refl [] w1).alloc (.cells #[i64 x.frm, i64 0, strV (ePk x.post.mine x.post.yours x.post.ack x.post.seq (tb x.post.text))] 45)).trans hg2) HP1.out.base (by simp))
  have HP2 := Lib.hid (And.intro hP2 (And.intro hK2 hC2))
  clear hP2 hK2 hC2 hg2 HP1 HC1 D1
  go_wp2_with fail
  obtain ⟨hP2, hK2, hC2⟩ := HP2.out
  have eE : w2.cell? ⟨P, 0, none⟩ = some (ptrV C0) := hP2.blk.cell 0
  have eK : w2.cell? ⟨w1.heap.size, 1, none⟩ = some (i64 0) := hK2.cell 1
  have hP3 := hP2.new_ ((Chg.refl [] w2).alloc (.cells #[i64 x.post.mine, i64 x.post.yours, i64 x.post.ack, i64 x.post.seq, strV (tb x.post.text)] 68))
  have hQ3 := Blk.new w2 68 #[i64 x.post.mine, i64 x.post.yours, i64 x.post.ack, i64 x.post.seq, strV (tb x.post.text)]
  have hK3 := hK2.alloc (.cells #[i64 x.post.mine, i64 x.post.yours, i64 x.post.ack, i64 x.post.seq, strV (tb x.post.text)] 68)
  have hC3 : ChgF F b w (w2.alloc (.cells #[i64 x.post.mine, i64 x.post.yours, i64 x.post.ack, i64 x.post.seq, strV (tb x.post.text)] 68)) := hC2.trans (ChgF.of ((Chg.refl [] w2).alloc _) hP2.base (by simp))
  obtain ⟨K, hK⟩ : ∃ K, w1.heap.size = K := ⟨_, rfl⟩
  have HKG : Hid (∀ q ∈ rowOf g0, q < K) := fun q hq => by
    have e1 := (H.out.lt (rowOf g0) (by simp) q hq).2
    have e2 := HS1.out
    omega
  obtain ⟨Q, hQ⟩ : ∃ Q, w2.heap.size = Q := ⟨_, rfl⟩
  rw [hK] at hK3
  rw [hQ] at hQ3
  simp only [hK, hQ]
  have hQl := hQ3.lt
  have hKQ : K < Q := by rw [← hK, ← hQ]; exact hK2.lt
  have HA := Lib.hid (And.intro hP3 (And.intro hQ3 (And.intro hK3 (And.intro hC3 hKQ))))
  clear eE eK hP2 hK2 hC2 hP3 hQ3 hK3 hC3 HP2 hK hQ hQl hKQ
  generalize w2.alloc (.cells #[i64 x.post.mine, i64 x.post.yours, i64 x.post.ack, i64 x.post.seq, strV (tb x.post.text)] 68) = W3 at HA ⊢
  have eE : W3.cell? ⟨P, 0, none⟩ = some (ptrV C0) := HA.out.1.blk.cell 0
  have eK : W3.cell? ⟨K, 1, none⟩ = some (i64 0) := HA.out.2.2.1.cell 1
  have q0 : W3.cell? ⟨Q, 0, none⟩ = some (i64 x.post.mine) := HA.out.2.1.cell 0
  have q1 : W3.cell? ⟨Q, 1, none⟩ = some (i64 x.post.yours) := HA.out.2.1.cell 1
  have q2 : W3.cell? ⟨Q, 2, none⟩ = some (i64 x.post.ack) := HA.out.2.1.cell 2
  have q3 : W3.cell? ⟨Q, 3, none⟩ = some (i64 x.post.seq) := HA.out.2.1.cell 3
  have q4 : W3.cell? ⟨Q, 4, none⟩ = some (strV (tb x.post.text)) := HA.out.2.1.cell 4
  have lP : P < W3.heap.size := HA.out.1.blk.lt
  have lK : K < W3.heap.size := HA.out.2.2.1.lt
  have lQ : Q < W3.heap.size := HA.out.2.1.lt
  have lC : C0 < W3.heap.size := HA.out.1.c0.blk.lt
  have mP : W3.heap.size ≠ P := by omega
  have mK : W3.heap.size ≠ K := by omega
  have mQ : W3.heap.size ≠ Q := by omega
  have nP : P ≠ C0 := HA.out.1.blk.ne_ HA.out.1.c0.blk (by decide)
  have nK : K ≠ C0 := HA.out.2.2.1.ne_ HA.out.1.c0.blk (by decide)
  have nQ : Q ≠ C0 := HA.out.2.1.ne_ HA.out.1.c0.blk (by decide)
  go_region_held3 (fun W => W.cell? ⟨P, 0, none⟩ = some (ptrV C0) ∧ W.cell? ⟨K, 1, none⟩ = some (i64 0) ∧ W.cell? ⟨Q, 0, none⟩ = some (i64 x.post.mine) ∧ W.cell? ⟨Q, 1, none⟩ = some (i64 x.post.yours) ∧ W.cell? ⟨Q, 2, none⟩ = some (i64 x.post.ack) ∧ W.cell? ⟨Q, 3, none⟩ = some (i64 x.post.seq) ∧ W.cell? ⟨Q, 4, none⟩ = some (strV (tb x.post.text)))
    (go_keep)
    (first
    | (go_at_call 24; refine (R1.out _ (HA.out.1.new_ ((Chg.refl [] W3).drew)).c0).mono ?_; rintro e w4 ⟨rfl, v', hch, hl, hg4⟩; have kP := cells_keep hg4 (b := P) (by first | exact lP | (simp; omega)) (by simpa using nP); have kK := cells_keep hg4 (b := K) (by first | exact lK | (simp; omega)) (by simpa using nK); have kQ := cells_keep hg4 (b := Q) (by first | exact lQ | (simp; omega)) (by simpa using nQ); have hs4 : W3.heap.size ≤ w4.heap.size := (by have := hg4.size; simp at this; omega); have oP : w4.heap.size ≠ P := (by omega); have oK : w4.heap.size ≠ K := (by omega); have oQ : w4.heap.size ≠ Q := (by omega))
    | (go_at_call 24; refine (R1.out _ (HA.out.1.new_ (((Chg.refl [] W3).alloc (.cells #[.string ⟨#[]⟩, .bool false, .bool false] 74)).drew)).c0).mono ?_; rintro e w4 ⟨rfl, v', hch, hl, hg4⟩; have kP := cells_keep hg4 (b := P) (by first | exact lP | (simp; omega)) (by simpa using nP); have kK := cells_keep hg4 (b := K) (by first | exact lK | (simp; omega)) (by simpa using nK); have kQ := cells_keep hg4 (b := Q) (by first | exact lQ | (simp; omega)) (by simpa using nQ); have hs4 : W3.heap.size ≤ w4.heap.size := (by have := hg4.size; simp at this; omega); have oP : w4.heap.size ≠ P := (by omega); have oK : w4.heap.size ≠ K := (by omega); have oQ : w4.heap.size ≠ Q := (by omega); have hH0 : Blk w4 W3.heap.size 74 #[.string ⟨#[]⟩, .bool false, .bool false] := (Blk.new W3 _ _).drew.chg hg4 (by simp; omega); have kH := fun j => hH0.cell j; have fH := fun j => hH0.frozen j))
  all_goals (
    first
    | (have hw : Chg [C0] W3.drew w4 := hg4
       have hg5 : Chg (C0 :: rowOf v0) W3.drew w4 := hw.mono (by intro k _ hk; simp at hk; subst hk; simp)
       have hP3 := HA.out.1.new_ ((Chg.refl [] W3).drew)
       have hP4 := hP3.upC0 hch (fun q h => .inl (hl q h)) (fun q h => by have := HA.out.1.lt (C0 :: rowOf v0) (by simp) q (List.mem_cons_of_mem _ (hl q h)); omega) hg5
       have hC4 : ChgF F b w w4 := (HA.out.2.2.2.1.trans (ChgF.of (S := []) ((Chg.refl [] W3).drew) HA.out.1.base (by simp))).trans (ChgF.of hg5 hP3.base (fun q hq => (hP3.lt (C0 :: rowOf v0) (by simp) q hq).1))
       have hZ := hP4.new_ ((Chg.refl [] w4).alloc (.cells #[(strV (tb none)), .bool false, .bool an] 74))
       have hZ2 := Blk.new w4 74 #[(strV (tb none)), .bool false, .bool an]
       have hZ3 : ChgF F b w (w4.alloc (.cells #[(strV (tb none)), .bool false, .bool an] 74)) := hC4.trans (ChgF.of (S := []) ((Chg.refl [] w4).alloc _) hP4.base (by simp))
       have hZ4 : (w4.alloc (.cells #[(strV (tb none)), .bool false, .bool an] 74)).cell? ⟨K, 1, none⟩ = some (i64 0) := (((Chg.refl [] w4).alloc _).cell (p := ⟨K, 1, none⟩) (by show K < _; omega) (by simp)).trans ((kK 1).trans eK)
       have HZ := Lib.hid (And.intro hZ (And.intro hZ2 (And.intro hZ3 hZ4)))
       clear hw hg5 hP3 hP4 hC4 hZ hZ2 hZ3 hZ4
       change Exit.then _ _ _ _ (w4.alloc (.cells #[(strV (tb none)), .bool false, .bool an] 74))
       generalize w4.alloc (.cells #[(strV (tb none)), .bool false, .bool an] 74) = WX at HZ ⊢
       obtain ⟨Hb, hHb⟩ : ∃ Hb, w4.heap.size = Hb := ⟨_, rfl⟩
       rw [hHb] at HZ
       simp only [hHb]
       clear hHb)
    | (have hw : Chg [C0] (W3.alloc (.cells #[.string ⟨#[]⟩, .bool false, .bool false] 74)).drew w4 := hg4
       have hg5 : Chg (C0 :: rowOf v0) (W3.alloc (.cells #[.string ⟨#[]⟩, .bool false, .bool false] 74)).drew w4 := hw.mono (by intro k _ hk; simp at hk; subst hk; simp)
       have hP3 := HA.out.1.new_ (((Chg.refl [] W3).alloc (.cells #[.string ⟨#[]⟩, .bool false, .bool false] 74)).drew)
       have hP4 := hP3.upC0 hch (fun q h => .inl (hl q h)) (fun q h => by have := HA.out.1.lt (C0 :: rowOf v0) (by simp) q (List.mem_cons_of_mem _ (hl q h)); omega) hg5
       have hC4 : ChgF F b w w4 := (HA.out.2.2.2.1.trans (ChgF.of (S := []) (((Chg.refl [] W3).alloc (.cells #[.string ⟨#[]⟩, .bool false, .bool false] 74)).drew) HA.out.1.base (by simp))).trans (ChgF.of hg5 hP3.base (fun q hq => (hP3.lt (C0 :: rowOf v0) (by simp) q hq).1))
       have hfar : ∀ a ∈ parts7 P C0 C1 N v' v1 vn1 g0 g1 x0 x1, W3.heap.size ∉ a := fun a ha hm => by
         have L := fun a ha h => (HA.out.1.lt a ha W3.heap.size h).2
         simp only [parts7, List.mem_cons, List.not_mem_nil, or_false] at ha
         rcases ha with rfl | rfl | rfl | rfl | rfl | rfl | rfl
         · have := L [P] (by simp) hm; omega
         · rcases List.mem_cons.1 hm with e | hm
           · omega
           · have := L (C0 :: rowOf v0) (by simp) (List.mem_cons_of_mem _ (hl _ hm)); omega
         · rcases List.mem_cons.1 hm with e | hm
           · have := L (C1 :: rowOf v1) (by simp) (by rw [e]; simp); omega
           · have := L (C1 :: rowOf v1) (by simp) (List.mem_cons_of_mem _ hm); omega
         · have := L (N :: rowOf vn1) (by simp) hm; omega
         · have := L (rowOf g0) (by simp) hm; omega
         · have := L (rowOf g1) (by simp) hm; omega
         · have := L (deep x0 ++ deep x1) (by simp) hm; omega
       have hgS : Chg [W3.heap.size] w4 (setPt w4 W3.heap.size (strV (tb none)) (.bool false) (.bool an)) := setPt_chg _ _ _ (Chg.refl _ _) (.inl (by simp))
       have hZ := hP4.far hgS (fun q hq a ha => (by simpa using hq : q = W3.heap.size) ▸ hfar a ha)
       have hZ2 := setPt_blk (strV (tb none)) (.bool false) (.bool an) hH0
       have hZ3 : ChgF F b w (setPt w4 W3.heap.size (strV (tb none)) (.bool false) (.bool an)) := hC4.trans (ChgF.of hgS hP4.base (fun q hq => (by simpa using hq : q = W3.heap.size) ▸ Or.inr HA.out.1.base))
       have hZ4 : (setPt w4 W3.heap.size (strV (tb none)) (.bool false) (.bool an)).cell? ⟨K, 1, none⟩ = some (i64 0) := (hgS.cell (p := ⟨K, 1, none⟩) (by show K < _; omega) (by simp; omega)).trans ((kK 1).trans ((((Chg.refl [] W3).alloc _).drew.cell (p := ⟨K, 1, none⟩) lK (by simp)).trans eK))
       have HZ := Lib.hid (And.intro hZ (And.intro hZ2 (And.intro hZ3 hZ4)))
       clear hw hg5 hP3 hP4 hC4 hZ hZ2 hZ3 hZ4 hgS hfar kH fH hH0
       change Exit.then _ _ _ _ (setPt w4 W3.heap.size (strV (tb none)) (.bool false) (.bool an))
       generalize setPt w4 W3.heap.size (strV (tb none)) (.bool false) (.bool an) = WX at HZ ⊢
       obtain ⟨Hb, hHb⟩ : ∃ Hb, W3.heap.size = Hb := ⟨_, rfl⟩
       rw [hHb] at HZ
       simp only [hHb]
       clear hHb))
  all_goals (
    clear kP kK kQ hch hl hg4 hs4 oP oK oQ
    have z1 : WX.cell? ⟨Hb, 1, none⟩ = some (.bool false) := HZ.out.2.1.cell 1
    have z5 : WX.cell? ⟨P, 5, none⟩ = some (.bool false) := HZ.out.1.blk.cell 5
    have f5 := HZ.out.1.blk.frozen 5
    have nH : Hb ≠ P := HZ.out.2.1.ne_ HZ.out.1.blk (by decide)
    have lH : Hb < WX.heap.size := HZ.out.2.1.lt
    go_wp2_with fail
    refine bodyPost_ret (results_none rfl _ _ _) rfl ?_
    rw [HF.out]
    simp only [Option.toList_none, List.append_nil]
    exact ⟨⟨_, rfl⟩, ⟨_, _, _, _, _, _, _, _, _, HZ.out.1.setBad⟩, HZ.out.2.2.1.trans (ChgF.of ((Chg.refl [P] WX).setCell (.inl (by simp)) _) HZ.out.1.base (fun q hq => (HZ.out.1.lt [P] (by simp) q hq).1))⟩)


set_option maxHeartbeats 4000000 in
set_option maxRecDepth 100000 in
theorem comes0_some (w : World) (F : List Nat) (b P C0 j : Nat) (p : Pair Msg) (x : Pk Msg) (m : Msg) (h : PairIn w F b P C0 p) (hx : p.net[j]? = some x) (hto : x.to = 0) (hcan : PkCan x.post.mine x.post.yours x.post.ack x.post.seq (tb x.post.text)) (hst : p.e0.yours ≤ x.post.mine) (hts : 0 < x.post.seq → x.post.text.isSome = true)
    (hf0 : 0 ≤ p.e0.first) (hf1 : p.e0.first ≤ 1099511627776) (hl0 : 0 ≤ p.e0.last) (hl1 : p.e0.last ≤ 1099511627776) (hlw : p.e0.wait.length ≤ 1099511627776) (hm : p.e0.hearsText x.post = some m) (hck : chkMsg m = true) (hhl : p.h0.length ≤ 1000000000) :
    Calls Try.prog 9 #[ptrV P, i64 (j : Int)] w (StepR w F b P C0 (p.comes j)) := by
  obtain ⟨C1, N, v0, v1, vn, g0, g1, x0, x1, h⟩ := h
  have hj : j < p.net.length := (List.getElem?_eq_some_iff.1 hx).1
  have d2 : w.cell? ⟨P, 2, none⟩ = some (ptrV N) := h.blk.cell 2
  have X := flat_get (enc := packC) (size := 3) (fun _ => rfl) p.net j x hx
  have T1 := Lib.hid (takeN_any N 0 p.net.length j vn (p.net.flatMap packC) x.frm 0 (ePk x.post.mine x.post.yours x.post.ack x.post.seq (tb x.post.text)) w h.net hj h.room (pack_one _) (X 0 (by decide)) (by have := X 1 (by decide); rw [this, ← hto]; rfl) (X 2 (by decide)))
  have D1 := Lib.hid (fun w => sdec_any x.post.mine x.post.yours x.post.ack x.post.seq (tb x.post.text) w hcan)
  have R1 := Lib.hid (fun (W : World) (hC : ChanAt W C0 0 v0 p.e0) => hear_any C0 0 v0 p.e0 x.post W hC hcan hst hts hf0 hf1 hl0 hl1 hlw)
  have hfin : p.comes j = { p with e0 := p.e0.hears x.post, h0 := p.h0 ++ (p.e0.hearsText x.post).toList, net := p.net.eraseIdx j } := by
    unfold Pair.comes
    rw [hx]
    simp [Pair.got, Pair.setE, Pair.addH, Pair.e, hto]
  rw [hm] at hfin R1
  have HF := Lib.hid hfin
  obtain ⟨i0, hi0, hz0, hz1, hz2⟩ := info_parts infoMsg
  have D2 := Lib.hid (fun w => dec_any m w hck)
  have HLE := Lib.hid hhl
  clear hck hhl
  have H := Lib.hid h
  have HJ := Lib.hid hj
  obtain ⟨an, han⟩ : ∃ an, p.e0.anew x.post = an := ⟨_, rfl⟩
  rw [han] at R1
  clear X hx hto hcan hst hts hf0 hf1 hl0 hl1 hlw hm hfin h hj han
  go_enter Try.func9, Try.ntmps9
  go_wp2_with fail
  (with_reducible refine T1.out.mono ?_)
  rintro e w1 ⟨rfl, vn1, hN1, hL1, hg1⟩
  have hP1 := PairIn.comesNet H.out HJ.out hN1 hL1 hg1
  have HC1 : Hid (ChgF F b w w1) := ChgF.of hg1 H.out.base (fun q hq => (H.out.lt (N :: rowOf vn) (by simp) q hq).1)
  have HP1 := Lib.hid hP1
  have HS1 := Lib.hid hg1.size
  clear hN1 hL1 hg1 hP1 d2 T1
  go_wp2_with fail
  (with_reducible refine (D1.out _).mono ?_)
  rintro e w2 ⟨rfl, hg2⟩
  have hP2 := (HP1.out.new_ ((Chg.refl [] w1).alloc (.cells #[i64 x.frm, i64 0, strV (ePk x.post.mine x.post.yours x.post.ack x.post.seq (tb x.post.text))] 45))).new_ hg2
  have hK2 : Blk w2 w1.heap.size 45 #[i64 x.frm, i64 0, strV (ePk x.post.mine x.post.yours x.post.ack x.post.seq (tb x.post.text))] := (Blk.new w1 _ _).chg hg2 (by simp)
  have hC2 : ChgF F b w w2 := HC1.out.trans (ChgF.of (((Chg.refl [] w1).alloc (.cells #[i64 x.frm, i64 0, strV (ePk x.post.mine x.post.yours x.post.ack x.post.seq (tb x.post.text))] 45)).trans hg2) HP1.out.base (by simp))
  have HP2 := Lib.hid (And.intro hP2 (And.intro hK2 hC2))
  clear hP2 hK2 hC2 hg2 HP1 HC1 D1
  go_wp2_with fail
  obtain ⟨hP2, hK2, hC2⟩ := HP2.out
  have eE : w2.cell? ⟨P, 0, none⟩ = some (ptrV C0) := hP2.blk.cell 0
  have eK : w2.cell? ⟨w1.heap.size, 1, none⟩ = some (i64 0) := hK2.cell 1
  have hP3 := hP2.new_ ((Chg.refl [] w2).alloc (.cells #[i64 x.post.mine, i64 x.post.yours, i64 x.post.ack, i64 x.post.seq, strV (tb x.post.text)] 68))
  have hQ3 := Blk.new w2 68 #[i64 x.post.mine, i64 x.post.yours, i64 x.post.ack, i64 x.post.seq, strV (tb x.post.text)]
  have hK3 := hK2.alloc (.cells #[i64 x.post.mine, i64 x.post.yours, i64 x.post.ack, i64 x.post.seq, strV (tb x.post.text)] 68)
  have hC3 : ChgF F b w (w2.alloc (.cells #[i64 x.post.mine, i64 x.post.yours, i64 x.post.ack, i64 x.post.seq, strV (tb x.post.text)] 68)) := hC2.trans (ChgF.of ((Chg.refl [] w2).alloc _) hP2.base (by simp))
  obtain ⟨K, hK⟩ : ∃ K, w1.heap.size = K := ⟨_, rfl⟩
  have HKG : Hid (∀ q ∈ rowOf g0, q < K) := fun q hq => by
    have e1 := (H.out.lt (rowOf g0) (by simp) q hq).2
    have e2 := HS1.out
    omega
  obtain ⟨Q, hQ⟩ : ∃ Q, w2.heap.size = Q := ⟨_, rfl⟩
  rw [hK] at hK3
  rw [hQ] at hQ3
  simp only [hK, hQ]
  have hQl := hQ3.lt
  have hKQ : K < Q := by rw [← hK, ← hQ]; exact hK2.lt
  have HA := Lib.hid (And.intro hP3 (And.intro hQ3 (And.intro hK3 (And.intro hC3 hKQ))))
  clear eE eK hP2 hK2 hC2 hP3 hQ3 hK3 hC3 HP2 hK hQ hQl hKQ
  generalize w2.alloc (.cells #[i64 x.post.mine, i64 x.post.yours, i64 x.post.ack, i64 x.post.seq, strV (tb x.post.text)] 68) = W3 at HA ⊢
  have eE : W3.cell? ⟨P, 0, none⟩ = some (ptrV C0) := HA.out.1.blk.cell 0
  have eK : W3.cell? ⟨K, 1, none⟩ = some (i64 0) := HA.out.2.2.1.cell 1
  have q0 : W3.cell? ⟨Q, 0, none⟩ = some (i64 x.post.mine) := HA.out.2.1.cell 0
  have q1 : W3.cell? ⟨Q, 1, none⟩ = some (i64 x.post.yours) := HA.out.2.1.cell 1
  have q2 : W3.cell? ⟨Q, 2, none⟩ = some (i64 x.post.ack) := HA.out.2.1.cell 2
  have q3 : W3.cell? ⟨Q, 3, none⟩ = some (i64 x.post.seq) := HA.out.2.1.cell 3
  have q4 : W3.cell? ⟨Q, 4, none⟩ = some (strV (tb x.post.text)) := HA.out.2.1.cell 4
  have lP : P < W3.heap.size := HA.out.1.blk.lt
  have lK : K < W3.heap.size := HA.out.2.2.1.lt
  have lQ : Q < W3.heap.size := HA.out.2.1.lt
  have lC : C0 < W3.heap.size := HA.out.1.c0.blk.lt
  have mP : W3.heap.size ≠ P := by omega
  have mK : W3.heap.size ≠ K := by omega
  have mQ : W3.heap.size ≠ Q := by omega
  have nP : P ≠ C0 := HA.out.1.blk.ne_ HA.out.1.c0.blk (by decide)
  have nK : K ≠ C0 := HA.out.2.2.1.ne_ HA.out.1.c0.blk (by decide)
  have nQ : Q ≠ C0 := HA.out.2.1.ne_ HA.out.1.c0.blk (by decide)
  go_region_held3 (fun W => W.cell? ⟨P, 0, none⟩ = some (ptrV C0) ∧ W.cell? ⟨K, 1, none⟩ = some (i64 0) ∧ W.cell? ⟨Q, 0, none⟩ = some (i64 x.post.mine) ∧ W.cell? ⟨Q, 1, none⟩ = some (i64 x.post.yours) ∧ W.cell? ⟨Q, 2, none⟩ = some (i64 x.post.ack) ∧ W.cell? ⟨Q, 3, none⟩ = some (i64 x.post.seq) ∧ W.cell? ⟨Q, 4, none⟩ = some (strV (tb x.post.text)))
    (go_keep)
    (first
    | (go_at_call 24; refine (R1.out _ (HA.out.1.new_ ((Chg.refl [] W3).drew)).c0).mono ?_; rintro e w4 ⟨rfl, v', hch, hl, hg4⟩; have kP := cells_keep hg4 (b := P) (by first | exact lP | (simp; omega)) (by simpa using nP); have kK := cells_keep hg4 (b := K) (by first | exact lK | (simp; omega)) (by simpa using nK); have kQ := cells_keep hg4 (b := Q) (by first | exact lQ | (simp; omega)) (by simpa using nQ); have hs4 : W3.heap.size ≤ w4.heap.size := (by have := hg4.size; simp at this; omega); have oP : w4.heap.size ≠ P := (by omega); have oK : w4.heap.size ≠ K := (by omega); have oQ : w4.heap.size ≠ Q := (by omega))
    | (go_at_call 24; refine (R1.out _ (HA.out.1.new_ (((Chg.refl [] W3).alloc (.cells #[.string ⟨#[]⟩, .bool false, .bool false] 74)).drew)).c0).mono ?_; rintro e w4 ⟨rfl, v', hch, hl, hg4⟩; have kP := cells_keep hg4 (b := P) (by first | exact lP | (simp; omega)) (by simpa using nP); have kK := cells_keep hg4 (b := K) (by first | exact lK | (simp; omega)) (by simpa using nK); have kQ := cells_keep hg4 (b := Q) (by first | exact lQ | (simp; omega)) (by simpa using nQ); have hs4 : W3.heap.size ≤ w4.heap.size := (by have := hg4.size; simp at this; omega); have oP : w4.heap.size ≠ P := (by omega); have oK : w4.heap.size ≠ K := (by omega); have oQ : w4.heap.size ≠ Q := (by omega); have hH0 : Blk w4 W3.heap.size 74 #[.string ⟨#[]⟩, .bool false, .bool false] := (Blk.new W3 _ _).drew.chg hg4 (by simp; omega); have kH := fun j => hH0.cell j; have fH := fun j => hH0.frozen j))
  all_goals (
    first
    | (have hw : Chg [C0] W3.drew w4 := hg4
       have hg5 : Chg (C0 :: rowOf v0) W3.drew w4 := hw.mono (by intro k _ hk; simp at hk; subst hk; simp)
       have hP3 := HA.out.1.new_ ((Chg.refl [] W3).drew)
       have hP4 := hP3.upC0 hch (fun q h => .inl (hl q h)) (fun q h => by have := HA.out.1.lt (C0 :: rowOf v0) (by simp) q (List.mem_cons_of_mem _ (hl q h)); omega) hg5
       have hC4 : ChgF F b w w4 := (HA.out.2.2.2.1.trans (ChgF.of (S := []) ((Chg.refl [] W3).drew) HA.out.1.base (by simp))).trans (ChgF.of hg5 hP3.base (fun q hq => (hP3.lt (C0 :: rowOf v0) (by simp) q hq).1))
       have hZ := hP4.new_ ((Chg.refl [] w4).alloc (.cells #[(strV (eMsg m)), .bool true, .bool an] 74))
       have hZ2 := Blk.new w4 74 #[(strV (eMsg m)), .bool true, .bool an]
       have hZ3 : ChgF F b w (w4.alloc (.cells #[(strV (eMsg m)), .bool true, .bool an] 74)) := hC4.trans (ChgF.of (S := []) ((Chg.refl [] w4).alloc _) hP4.base (by simp))
       have hZ4 : (w4.alloc (.cells #[(strV (eMsg m)), .bool true, .bool an] 74)).cell? ⟨K, 1, none⟩ = some (i64 0) := (((Chg.refl [] w4).alloc _).cell (p := ⟨K, 1, none⟩) (by show K < _; omega) (by simp)).trans ((kK 1).trans eK)
       have HZ := Lib.hid (And.intro hZ (And.intro hZ2 (And.intro hZ3 hZ4)))
       clear hw hg5 hP3 hP4 hC4 hZ hZ2 hZ3 hZ4
       change Exit.then _ _ _ _ (w4.alloc (.cells #[(strV (eMsg m)), .bool true, .bool an] 74))
       generalize w4.alloc (.cells #[(strV (eMsg m)), .bool true, .bool an] 74) = WX at HZ ⊢
       obtain ⟨Hb, hHb⟩ : ∃ Hb, w4.heap.size = Hb := ⟨_, rfl⟩
       rw [hHb] at HZ
       simp only [hHb]
       clear hHb)
    | (have hw : Chg [C0] (W3.alloc (.cells #[.string ⟨#[]⟩, .bool false, .bool false] 74)).drew w4 := hg4
       have hg5 : Chg (C0 :: rowOf v0) (W3.alloc (.cells #[.string ⟨#[]⟩, .bool false, .bool false] 74)).drew w4 := hw.mono (by intro k _ hk; simp at hk; subst hk; simp)
       have hP3 := HA.out.1.new_ (((Chg.refl [] W3).alloc (.cells #[.string ⟨#[]⟩, .bool false, .bool false] 74)).drew)
       have hP4 := hP3.upC0 hch (fun q h => .inl (hl q h)) (fun q h => by have := HA.out.1.lt (C0 :: rowOf v0) (by simp) q (List.mem_cons_of_mem _ (hl q h)); omega) hg5
       have hC4 : ChgF F b w w4 := (HA.out.2.2.2.1.trans (ChgF.of (S := []) (((Chg.refl [] W3).alloc (.cells #[.string ⟨#[]⟩, .bool false, .bool false] 74)).drew) HA.out.1.base (by simp))).trans (ChgF.of hg5 hP3.base (fun q hq => (hP3.lt (C0 :: rowOf v0) (by simp) q hq).1))
       have hfar : ∀ a ∈ parts7 P C0 C1 N v' v1 vn1 g0 g1 x0 x1, W3.heap.size ∉ a := fun a ha hm => by
         have L := fun a ha h => (HA.out.1.lt a ha W3.heap.size h).2
         simp only [parts7, List.mem_cons, List.not_mem_nil, or_false] at ha
         rcases ha with rfl | rfl | rfl | rfl | rfl | rfl | rfl
         · have := L [P] (by simp) hm; omega
         · rcases List.mem_cons.1 hm with e | hm
           · omega
           · have := L (C0 :: rowOf v0) (by simp) (List.mem_cons_of_mem _ (hl _ hm)); omega
         · rcases List.mem_cons.1 hm with e | hm
           · have := L (C1 :: rowOf v1) (by simp) (by rw [e]; simp); omega
           · have := L (C1 :: rowOf v1) (by simp) (List.mem_cons_of_mem _ hm); omega
         · have := L (N :: rowOf vn1) (by simp) hm; omega
         · have := L (rowOf g0) (by simp) hm; omega
         · have := L (rowOf g1) (by simp) hm; omega
         · have := L (deep x0 ++ deep x1) (by simp) hm; omega
       have hgS : Chg [W3.heap.size] w4 (setPt w4 W3.heap.size (strV (eMsg m)) (.bool true) (.bool an)) := setPt_chg _ _ _ (Chg.refl _ _) (.inl (by simp))
       have hZ := hP4.far hgS (fun q hq a ha => (by simpa using hq : q = W3.heap.size) ▸ hfar a ha)
       have hZ2 := setPt_blk (strV (eMsg m)) (.bool true) (.bool an) hH0
       have hZ3 : ChgF F b w (setPt w4 W3.heap.size (strV (eMsg m)) (.bool true) (.bool an)) := hC4.trans (ChgF.of hgS hP4.base (fun q hq => (by simpa using hq : q = W3.heap.size) ▸ Or.inr HA.out.1.base))
       have hZ4 : (setPt w4 W3.heap.size (strV (eMsg m)) (.bool true) (.bool an)).cell? ⟨K, 1, none⟩ = some (i64 0) := (hgS.cell (p := ⟨K, 1, none⟩) (by show K < _; omega) (by simp; omega)).trans ((kK 1).trans ((((Chg.refl [] W3).alloc _).drew.cell (p := ⟨K, 1, none⟩) lK (by simp)).trans eK))
       have HZ := Lib.hid (And.intro hZ (And.intro hZ2 (And.intro hZ3 hZ4)))
       clear hw hg5 hP3 hP4 hC4 hZ hZ2 hZ3 hZ4 hgS hfar kH fH hH0
       change Exit.then _ _ _ _ (setPt w4 W3.heap.size (strV (eMsg m)) (.bool true) (.bool an))
       generalize setPt w4 W3.heap.size (strV (eMsg m)) (.bool true) (.bool an) = WX at HZ ⊢
       obtain ⟨Hb, hHb⟩ : ∃ Hb, W3.heap.size = Hb := ⟨_, rfl⟩
       rw [hHb] at HZ
       simp only [hHb]
       clear hHb))
  all_goals (
    clear kP kK kQ hch hl hg4 hs4 oP oK oQ
    have z1 : WX.cell? ⟨Hb, 1, none⟩ = some (.bool true) := HZ.out.2.1.cell 1
    have z5 : WX.cell? ⟨P, 5, none⟩ = some (.bool false) := HZ.out.1.blk.cell 5
    have f5 := HZ.out.1.blk.frozen 5
    have nH : Hb ≠ P := HZ.out.2.1.ne_ HZ.out.1.blk (by decide)
    have lH : Hb < WX.heap.size := HZ.out.2.1.lt
    have z0 : WX.cell? ⟨Hb, 0, none⟩ = some (strV (eMsg m)) := HZ.out.2.1.cell 0
    go_wp2_with fail
    (with_reducible refine (D2.out _).mono ?_)
    rintro e w6 ⟨s1, s2, s3, rfl, hin, hg6, hnw⟩
    have hgS : Chg [P] WX (WX.setCell ⟨P, 5, none⟩ (.bool false)) := (Chg.refl [P] WX).setCell (.inl (by simp)) _
    have hP5 := HZ.out.1.setBad
    have hC5 : ChgF F b w (WX.setCell ⟨P, 5, none⟩ (.bool false)) := HZ.out.2.2.1.trans (ChgF.of hgS HZ.out.1.base (fun q hq => (HZ.out.1.lt [P] (by simp) q hq).1))
    have hP6 := hP5.new_ hg6
    have hC6 := hC5.trans (ChgF.of (S := []) hg6 hP5.base (by simp))
    have nKP : K ≠ P := fun e => by have e2 := HZ.out.1.blk.cell 1; rw [← e] at e2; rw [HZ.out.2.2.2] at e2; cases e2
    have k6 : w6.cell? ⟨K, 1, none⟩ = some (i64 0) := ((hg6.cell (p := ⟨K, 1, none⟩) (cell_lt ((hgS.cell (p := ⟨K, 1, none⟩) (cell_lt HZ.out.2.2.2) (by simpa using nKP)).trans HZ.out.2.2.2)) (by simp)).trans (hgS.cell (p := ⟨K, 1, none⟩) (cell_lt HZ.out.2.2.2) (by simpa using nKP))).trans HZ.out.2.2.2
    have lK6 : K < w6.heap.size := cell_lt k6
    have y5 : w6.cell? ⟨P, 5, none⟩ = some (.bool false) := hP6.blk.cell 5
    have g5 := hP6.blk.frozen 5
    have lP6 := hP6.blk.lt
    have nP6 : ¬ (P = w6.heap.size) := by omega
    have hs6 : WX.heap.size ≤ w6.heap.size := by have := hg6.size; simpa using this
    have hyq : ∀ q ∈ (⟨m, s1, s2, s3⟩ : HM).blks, WX.heap.size ≤ q ∧ q < w6.heap.size := fun q hq => by
      simp only [HM.blks, List.mem_append] at hq
      have := hnw q hq
      simpa using this
    have HY := Lib.hid (And.intro hP6 (And.intro hC6 (And.intro hin hyq)))
    have HP0 := Lib.hid HZ.out.1
    clear z0 z1 z5 f5 nH lH hP5 hP6 hC5 hC6 hin hg6 hnw hyq hgS HZ
    go_wp2_with fail
    have hPa := HY.out.1.setBad
    have hgP : Chg [P] w6 (w6.setCell ⟨P, 5, none⟩ (.bool false)) := (Chg.refl [P] _).setCell (.inl (by simp)) _
    have hP8 := hPa.new_ ((Chg.refl [] (w6.setCell ⟨P, 5, none⟩ (.bool false))).alloc (.cells #[i64 m.kind, i64 m.t, i64 m.n, .slice s1.1 m.cmds.length s1.2, .slice s2.1 m.buns.length s2.2, .slice s3.1 m.ids.length s3.2] 36))
    have hM8 : Blk ((w6.setCell ⟨P, 5, none⟩ (.bool false)).alloc (.cells #[i64 m.kind, i64 m.t, i64 m.n, .slice s1.1 m.cmds.length s1.2, .slice s2.1 m.buns.length s2.2, .slice s3.1 m.ids.length s3.2] 36)) w6.heap.size 36 #[i64 m.kind, i64 m.t, i64 m.n, .slice s1.1 m.cmds.length s1.2, .slice s2.1 m.buns.length s2.2, .slice s3.1 m.ids.length s3.2] := by
      have := Blk.new (w6.setCell ⟨P, 5, none⟩ (.bool false)) 36 #[i64 m.kind, i64 m.t, i64 m.n, .slice s1.1 m.cmds.length s1.2, .slice s2.1 m.buns.length s2.2, .slice s3.1 m.ids.length s3.2]
      rwa [World.size_setCell] at this
    have hC8 : ChgF F b w ((w6.setCell ⟨P, 5, none⟩ (.bool false)).alloc (.cells #[i64 m.kind, i64 m.t, i64 m.n, .slice s1.1 m.cmds.length s1.2, .slice s2.1 m.buns.length s2.2, .slice s3.1 m.ids.length s3.2] 36)) := (HY.out.2.1.trans (ChgF.of hgP HY.out.1.base (fun q hq => (HY.out.1.lt [P] (by simp) q hq).1))).trans (ChgF.of (S := []) ((Chg.refl [] _).alloc _) hPa.base (by simp))
    have hW8 : Chg [P] w6 ((w6.setCell ⟨P, 5, none⟩ (.bool false)).alloc (.cells #[i64 m.kind, i64 m.t, i64 m.n, .slice s1.1 m.cmds.length s1.2, .slice s2.1 m.buns.length s2.2, .slice s3.1 m.ids.length s3.2] 36)) := hgP.alloc _
    have k8 : ((w6.setCell ⟨P, 5, none⟩ (.bool false)).alloc (.cells #[i64 m.kind, i64 m.t, i64 m.n, .slice s1.1 m.cmds.length s1.2, .slice s2.1 m.buns.length s2.2, .slice s3.1 m.ids.length s3.2] 36)).cell? ⟨K, 1, none⟩ = some (i64 0) := (hW8.cell (p := ⟨K, 1, none⟩) lK6 (by simpa using nKP)).trans k6
    obtain ⟨M, hM⟩ : ∃ M, w6.heap.size = M := ⟨_, rfl⟩
    have hs8 : ((w6.setCell ⟨P, 5, none⟩ (.bool false)).alloc (.cells #[i64 m.kind, i64 m.t, i64 m.n, .slice s1.1 m.cmds.length s1.2, .slice s2.1 m.buns.length s2.2, .slice s3.1 m.ids.length s3.2] 36)).heap.size = M + 1 := by simp [hM]
    have HQ := Lib.hid (And.intro hP8 (And.intro hM8 (And.intro hC8 (And.intro hW8 hs8))))
    rw [hM] at HQ
    simp only [hM]
    have lKM : K < M := by omega
    have lPM : P < M := by omega
    clear hPa hP8 hgP hM8 hC8 hW8 hs8 y5 g5 lP6 nP6 lK6 k6
    generalize (w6.setCell ⟨P, 5, none⟩ (.bool false)).alloc (.cells #[i64 m.kind, i64 m.t, i64 m.n, .slice s1.1 m.cmds.length s1.2, .slice s2.1 m.buns.length s2.2, .slice s3.1 m.ids.length s3.2] 36) = W8 at HQ k8 ⊢
    obtain ⟨GA, GC, hGG⟩ := own_slice' HQ.out.1.h0.own
    obtain ⟨G, hGe⟩ : ∃ G, G = g0 := ⟨_, rfl⟩
    have eG : W8.cell? ⟨P, 3, none⟩ = some (.slice GA x0.length GC) := by rw [← hGG]; exact HQ.out.1.blk.cell 3
    have fG := HQ.out.1.blk.frozen 3
    have kM := fun j => HQ.out.2.1.cell j
    have hown := HQ.out.1.h0.own
    rw [hGG] at hown
    have HOW := Lib.hid hown
    have HGG := Lib.hid hGG
    have hm0 := HQ.out.1.m0
    have hxl : x0.length ≤ 1000000000 := by have := HLE.out; rw [← show _ = p.h0 from hm0, List.length_map] at this; exact this
    have hs8 := HQ.out.2.2.2.2
    have nPs : ¬ (P = W8.heap.size) := by omega
    have nKs : ¬ (K = W8.heap.size) := by omega
    have nMs : ¬ (M = W8.heap.size) := by omega
    have lPW : P < W8.heap.size := by omega
    have lKW : K < W8.heap.size := by omega
    have lMW : M < W8.heap.size := by omega
    have eG2 : ∀ o, (W8.alloc o).cell? ⟨P, 3, none⟩ = some (.slice GA x0.length GC) := fun o => (((Chg.refl [] W8).alloc o).cell (p := ⟨P, 3, none⟩) lPW (by simp)).trans eG
    have k82 : ∀ o, (W8.alloc o).cell? ⟨K, 1, none⟩ = some (i64 0) := fun o => (((Chg.refl [] W8).alloc o).cell (p := ⟨K, 1, none⟩) lKW (by simp)).trans k8
    have kM2 : ∀ o i, (W8.alloc o).cell? ⟨M, i, none⟩ = W8.cell? ⟨M, i, none⟩ := fun o i => ((Chg.refl [] W8).alloc o).cell (p := ⟨M, i, none⟩) lMW (by simp)
    have HS8 := Lib.hid hs8
    clear hGG hGe hown hm0 hs8
    obtain ⟨xn, hxn⟩ : ∃ xn, x0.length = xn := ⟨_, rfl⟩
    have HXN := Lib.hid hxn
    rw [hxn] at hxl eG
    simp only [hxn] at eG2
    clear hxn
    have e50 : W8.cell? ⟨M, 0, none⟩ = some (i64 m.kind) := HQ.out.2.1.cell 0
    have e51 : W8.cell? ⟨M, 1, none⟩ = some (i64 m.t) := HQ.out.2.1.cell 1
    have e52 : W8.cell? ⟨M, 2, none⟩ = some (i64 m.n) := HQ.out.2.1.cell 2
    have e53 : W8.cell? ⟨M, 3, none⟩ = some (.slice s1.1 m.cmds.length s1.2) := HQ.out.2.1.cell 3
    have e54 : W8.cell? ⟨M, 4, none⟩ = some (.slice s2.1 m.buns.length s2.2) := HQ.out.2.1.cell 4
    have e55 : W8.cell? ⟨M, 5, none⟩ = some (.slice s3.1 m.ids.length s3.2) := HQ.out.2.1.cell 5
    have nKP' : ¬ (P = K) := fun e => nKP e.symm
    have nMP : ¬ (M = P) := by omega
    have nMP' : ¬ (P = M) := by omega
    have sK : W8.heap.size ≠ K := by omega
    have sM : W8.heap.size ≠ M := by omega
    clear kM kM2 k82
    have k82 := fun o => (((Chg.refl [] W8).alloc o).cell (p := ⟨K, 1, none⟩) lKW (by simp)).trans k8
    rw [show Op.load 22 (Operand.tmp 83) = ldOp 22 (Operand.tmp 83) from rfl]
    have hX : ∀ t x, ldOp t x = Op.load t x := fun _ _ => rfl
    go_region_held3 (fun W => W.cell? ⟨K, 1, none⟩ = some (i64 0) ∧ W.cell? ⟨M, 0, none⟩ = some (i64 m.kind) ∧ W.cell? ⟨M, 1, none⟩ = some (i64 m.t) ∧ W.cell? ⟨M, 2, none⟩ = some (i64 m.n) ∧ W.cell? ⟨M, 3, none⟩ = some (.slice s1.1 m.cmds.length s1.2) ∧ W.cell? ⟨M, 4, none⟩ = some (.slice s2.1 m.buns.length s2.2) ∧ W.cell? ⟨M, 5, none⟩ = some (.slice s3.1 m.ids.length s3.2)) (go_keep) (first | (refine step_append_own' (by rfl) (.tmp 84) (.tmp 86) 22 rfl 0 36 i0 _ 6 96 Try.underlying22 hi0 hz0 hz1 hz2 rfl (by decide) (.slice GA xn GC) xn (x0.flatMap msgC) rfl (by have := (HOW.out.alloc (.cells #[i64 m.kind, i64 m.t, i64 m.n, .slice s1.1 m.cmds.length s1.2, .slice s2.1 m.buns.length s2.2, .slice s3.1 m.ids.length s3.2] 36)).drew; rw [HXN.out] at this; exact this) ⟨W8.heap.size, 0, none⟩ 1 1 (msgC ⟨m, s1, s2, s3⟩) rfl rfl (World.news_of_block (w := W8.alloc (.cells #[i64 m.kind, i64 m.t, i64 m.n, .slice s1.1 m.cmds.length s1.2, .slice s2.1 m.buns.length s2.2, .slice s3.1 m.ids.length s3.2] 36)) (Blk.new W8 36 #[i64 m.kind, i64 m.t, i64 m.n, .slice s1.1 m.cmds.length s1.2, .slice s2.1 m.buns.length s2.2, .slice s3.1 m.ids.length s3.2])) (by simp [Value.oneCell']) (by unfold maxLen; omega) (by omega) (by omega) ?_; intro v2 w7 hown2 hgrow hat; obtain ⟨B2, c2, rfl⟩ := own_slice' hown2; have hB7 : Blk w7 P 41 _ := ((hgrow.block P (by show P < (W8.alloc _).heap.size; simp; omega) (fun e => by have e2 := HQ.out.1.off (i := 0) (j := 4) (by decide) rfl rfl P (by simp); rw [HGG.out, HXN.out] at e2; exact e2 (by rw [rowOf, ← e]; simp))).trans ((HQ.out.1.blk).alloc (.cells #[i64 m.kind, i64 m.t, i64 m.n, .slice s1.1 m.cmds.length s1.2, .slice s2.1 m.buns.length s2.2, .slice s3.1 m.ids.length s3.2] 36))); have q1 : w7.cell? ⟨P, 3, none⟩ = some g0 := hB7.cell 3; have f1 := hB7.frozen 3; have k7 : w7.cell? ⟨K, 1, none⟩ = some (i64 0) := (hgrow.cell_far ⟨K, 1, none⟩ (by show K < (W8.alloc _).heap.size; simp; omega) (fun e => by have e3 : K ∈ rowOf (.slice GA xn GC) := (by rw [rowOf, ← e]; simp); rw [← HXN.out, ← HGG.out] at e3; exact absurd (HKG.out K e3) (Nat.lt_irrefl _))).trans (k82 _); have kM7 : ∀ i, w7.cell? ⟨M, i, none⟩ = W8.cell? ⟨M, i, none⟩ := (fun i => (hgrow.cell_far ⟨M, i, none⟩ (by show M < (W8.alloc _).heap.size; simp; omega) (fun e => by have e3 : M ∈ rowOf (.slice GA xn GC) := (by rw [rowOf, ← e]; simp); rw [← HXN.out, ← HGG.out] at e3; have e4 := HKG.out M e3; omega)).trans (((Chg.refl [] W8).alloc _).cell (p := ⟨M, i, none⟩) lMW (by simp)))))
    all_goals (
      have e0 : rowOf (.slice GA xn GC) = rowOf g0 := by rw [← HXN.out, ← HGG.out]
      have hS1 : Chg (rowOf (.slice GA xn GC)) (W8.alloc (.cells #[i64 m.kind, i64 m.t, i64 m.n, .slice s1.1 m.cmds.length s1.2, .slice s2.1 m.buns.length s2.2, .slice s3.1 m.ids.length s3.2] 36)).drew w7 := Chg.of_grown hgrow (fun q e => .inl (by rw [rowOf, e]; simp))
      have hS2 : Chg (P :: rowOf g0) W8 w7 := (((Chg.refl (P :: rowOf g0) W8).alloc _).drew).then_ hS1 (fun i hi hm => List.mem_cons_of_mem _ (e0 ▸ hm))
      have hS3 : Chg (P :: rowOf g0) W8 (w7.setCell ⟨P, 3, none⟩ (.slice B2 (xn + 1) c2)) := hS2.setCell (.inl (by simp)) _
      have hne := own_ne_blk hown2 hB7 (by decide)
      have hB9 := hB7.set_ 3 (.slice B2 (xn + 1) c2)
      have hO9 : (w7.setCell ⟨P, 3, none⟩ (.slice B2 (xn + 1) c2)).ownsRow 0 36 6 (.slice B2 (xn + 1) c2) (x0.length + 1) ((x0 ++ [(⟨m, s1, s2, s3⟩ : HM)]).flatMap msgC) := by
        rw [HXN.out, List.flatMap_append]
        exact own_chg hown2 ((Chg.refl [P] w7).setCell (p := ⟨P, 3, none⟩) (.inl (by simp)) _) (by intro q hq hm; simp at hm; subst hm; exact hne hq)
      have hL9 : Lies W8 g0 (.slice B2 (xn + 1) c2) := by
        have := Lies.of_at (w := W8) hat (by show W8.heap.size ≤ (W8.alloc _).heap.size; simp)
        intro q hq
        rcases this q hq with h1 | h1
        · exact .inl (e0 ▸ h1)
        · exact .inr h1
      have hlow : ∀ q ∈ P :: rowOf g0, q < WX.heap.size := fun q hq => by
        rcases List.mem_cons.1 hq with e | hq
        · exact (HP0.out.lt [P] (by simp) q (by rw [e]; simp)).2
        · exact (HP0.out.lt (rowOf g0) (by simp) q hq).2
      have hI9 : MsgIn (w7.setCell ⟨P, 3, none⟩ (.slice B2 (xn + 1) c2)) m s1 s2 s3 := HY.out.2.2.1.chg ((HQ.out.2.2.2.1.mono (S' := P :: rowOf g0) (by intro k _ hk; simp at hk; subst hk; simp)).trans hS3) (fun k hk => by
        have hb : k ∉ (⟨m, s1, s2, s3⟩ : HM).blks := fun hm => by have e1 := hlow k hk; have e2 := (HY.out.2.2.2 k hm).1; omega
        simpa [HM.blks] using hb)
      have hF9 := HQ.out.1.upH0 (y := (⟨m, s1, s2, s3⟩ : HM)) hB9 hO9 hL9 hS3 hI9 (fun q hq => by
        have e1 := HY.out.2.2.2 q hq
        have e2 := HP0.out.base
        refine ⟨.inr (by omega), by omega, fun a ha hm => ?_⟩
        have := (HP0.out.lt a ha q hm).2
        omega)
      have hC9 := HQ.out.2.2.1.trans (ChgF.of hS3 HQ.out.1.base (fun q hq => by
        rcases List.mem_cons.1 hq with e | hq
        · exact (HQ.out.1.lt [P] (by simp) q (by rw [e]; simp)).1
        · exact (HQ.out.1.lt (rowOf g0) (by simp) q hq).1))
      have HFIN := Lib.hid (And.intro hF9 hC9)
      clear hS1 hS2 hS3 hne hB9 hO9 hL9 hlow hI9 hF9 hC9 e0 hgrow hat hown2 hB7
      go_wp2_with fail
      refine bodyPost_ret (results_none rfl _ _ _) rfl ?_
      rw [HF.out]
      exact ⟨⟨_, rfl⟩, ⟨_, _, _, _, _, _, _, _, _, HFIN.out.1⟩, HFIN.out.2⟩))


set_option maxHeartbeats 4000000 in
set_option maxRecDepth 100000 in
theorem comes1_none (w : World) (F : List Nat) (b P C0 j : Nat) (p : Pair Msg) (x : Pk Msg) (h : PairIn w F b P C0 p) (hx : p.net[j]? = some x) (hto : x.to = 1) (hcan : PkCan x.post.mine x.post.yours x.post.ack x.post.seq (tb x.post.text)) (hst : p.e1.yours ≤ x.post.mine) (hts : 0 < x.post.seq → x.post.text.isSome = true)
    (hf0 : 0 ≤ p.e1.first) (hf1 : p.e1.first ≤ 1099511627776) (hl0 : 0 ≤ p.e1.last) (hl1 : p.e1.last ≤ 1099511627776) (hlw : p.e1.wait.length ≤ 1099511627776) (hm : p.e1.hearsText x.post = none) :
    Calls Try.prog 9 #[ptrV P, i64 (j : Int)] w (StepR w F b P C0 (p.comes j)) := by
  obtain ⟨C1, N, v0, v1, vn, g0, g1, x0, x1, h⟩ := h
  have hj : j < p.net.length := (List.getElem?_eq_some_iff.1 hx).1
  have d2 : w.cell? ⟨P, 2, none⟩ = some (ptrV N) := h.blk.cell 2
  have X := flat_get (enc := packC) (size := 3) (fun _ => rfl) p.net j x hx
  have T1 := Lib.hid (takeN_any N 0 p.net.length j vn (p.net.flatMap packC) x.frm 1 (ePk x.post.mine x.post.yours x.post.ack x.post.seq (tb x.post.text)) w h.net hj h.room (pack_one _) (X 0 (by decide)) (by have := X 1 (by decide); rw [this, ← hto]; rfl) (X 2 (by decide)))
  have D1 := Lib.hid (fun w => sdec_any x.post.mine x.post.yours x.post.ack x.post.seq (tb x.post.text) w hcan)
  have R1 := Lib.hid (fun (W : World) (hC : ChanAt W C1 0 v1 p.e1) => hear_any C1 0 v1 p.e1 x.post W hC hcan hst hts hf0 hf1 hl0 hl1 hlw)
  have hfin : p.comes j = { p with e1 := p.e1.hears x.post, h1 := p.h1 ++ (p.e1.hearsText x.post).toList, net := p.net.eraseIdx j } := by
    unfold Pair.comes
    rw [hx]
    simp [Pair.got, Pair.setE, Pair.addH, Pair.e, hto]
  rw [hm] at hfin R1
  have HF := Lib.hid hfin
  have H := Lib.hid h
  have HJ := Lib.hid hj
  obtain ⟨an, han⟩ : ∃ an, p.e1.anew x.post = an := ⟨_, rfl⟩
  rw [han] at R1
  clear X hx hto hcan hst hts hf0 hf1 hl0 hl1 hlw hm hfin h hj han
  go_enter Try.func9, Try.ntmps9
  go_wp2_with fail
  (with_reducible refine T1.out.mono ?_)
  rintro e w1 ⟨rfl, vn1, hN1, hL1, hg1⟩
  have hP1 := PairIn.comesNet H.out HJ.out hN1 hL1 hg1
  have HC1 : Hid (ChgF F b w w1) := ChgF.of hg1 H.out.base (fun q hq => (H.out.lt (N :: rowOf vn) (by simp) q hq).1)
  have HP1 := Lib.hid hP1
  have HS1 := Lib.hid hg1.size
  clear hN1 hL1 hg1 hP1 d2 T1
  go_wp2_with fail
  (with_reducible refine (D1.out _).mono ?_)
  rintro e w2 ⟨rfl, hg2⟩
  have hP2 := (HP1.out.new_ ((Chg.refl [] w1).alloc (.cells #[i64 x.frm, i64 1, strV (ePk x.post.mine x.post.yours x.post.ack x.post.seq (tb x.post.text))] 45))).new_ hg2
  have hK2 : Blk w2 w1.heap.size 45 #[i64 x.frm, i64 1, strV (ePk x.post.mine x.post.yours x.post.ack x.post.seq (tb x.post.text))] := (Blk.new w1 _ _).chg hg2 (by simp)
  have hC2 : ChgF F b w w2 := HC1.out.trans (ChgF.of (((Chg.refl [] w1).alloc (.cells #[i64 x.frm, i64 1, strV (ePk x.post.mine x.post.yours x.post.ack x.post.seq (tb x.post.text))] 45)).trans hg2) HP1.out.base (by simp))
  have HP2 := Lib.hid (And.intro hP2 (And.intro hK2 hC2))
  clear hP2 hK2 hC2 hg2 HP1 HC1 D1
  go_wp2_with fail
  obtain ⟨hP2, hK2, hC2⟩ := HP2.out
  have eE : w2.cell? ⟨P, 1, none⟩ = some (ptrV C1) := hP2.blk.cell 1
  have eK : w2.cell? ⟨w1.heap.size, 1, none⟩ = some (i64 1) := hK2.cell 1
  have hP3 := hP2.new_ ((Chg.refl [] w2).alloc (.cells #[i64 x.post.mine, i64 x.post.yours, i64 x.post.ack, i64 x.post.seq, strV (tb x.post.text)] 68))
  have hQ3 := Blk.new w2 68 #[i64 x.post.mine, i64 x.post.yours, i64 x.post.ack, i64 x.post.seq, strV (tb x.post.text)]
  have hK3 := hK2.alloc (.cells #[i64 x.post.mine, i64 x.post.yours, i64 x.post.ack, i64 x.post.seq, strV (tb x.post.text)] 68)
  have hC3 : ChgF F b w (w2.alloc (.cells #[i64 x.post.mine, i64 x.post.yours, i64 x.post.ack, i64 x.post.seq, strV (tb x.post.text)] 68)) := hC2.trans (ChgF.of ((Chg.refl [] w2).alloc _) hP2.base (by simp))
  obtain ⟨K, hK⟩ : ∃ K, w1.heap.size = K := ⟨_, rfl⟩
  have HKG : Hid (∀ q ∈ rowOf g1, q < K) := fun q hq => by
    have e1 := (H.out.lt (rowOf g1) (by simp) q hq).2
    have e2 := HS1.out
    omega
  obtain ⟨Q, hQ⟩ : ∃ Q, w2.heap.size = Q := ⟨_, rfl⟩
  rw [hK] at hK3
  rw [hQ] at hQ3
  simp only [hK, hQ]
  have hQl := hQ3.lt
  have hKQ : K < Q := by rw [← hK, ← hQ]; exact hK2.lt
  have HA := Lib.hid (And.intro hP3 (And.intro hQ3 (And.intro hK3 (And.intro hC3 hKQ))))
  clear eE eK hP2 hK2 hC2 hP3 hQ3 hK3 hC3 HP2 hK hQ hQl hKQ
  generalize w2.alloc (.cells #[i64 x.post.mine, i64 x.post.yours, i64 x.post.ack, i64 x.post.seq, strV (tb x.post.text)] 68) = W3 at HA ⊢
  have eE : W3.cell? ⟨P, 1, none⟩ = some (ptrV C1) := HA.out.1.blk.cell 1
  have eK : W3.cell? ⟨K, 1, none⟩ = some (i64 1) := HA.out.2.2.1.cell 1
  have q0 : W3.cell? ⟨Q, 0, none⟩ = some (i64 x.post.mine) := HA.out.2.1.cell 0
  have q1 : W3.cell? ⟨Q, 1, none⟩ = some (i64 x.post.yours) := HA.out.2.1.cell 1
  have q2 : W3.cell? ⟨Q, 2, none⟩ = some (i64 x.post.ack) := HA.out.2.1.cell 2
  have q3 : W3.cell? ⟨Q, 3, none⟩ = some (i64 x.post.seq) := HA.out.2.1.cell 3
  have q4 : W3.cell? ⟨Q, 4, none⟩ = some (strV (tb x.post.text)) := HA.out.2.1.cell 4
  have lP : P < W3.heap.size := HA.out.1.blk.lt
  have lK : K < W3.heap.size := HA.out.2.2.1.lt
  have lQ : Q < W3.heap.size := HA.out.2.1.lt
  have lC : C1 < W3.heap.size := HA.out.1.c1.blk.lt
  have mP : W3.heap.size ≠ P := by omega
  have mK : W3.heap.size ≠ K := by omega
  have mQ : W3.heap.size ≠ Q := by omega
  have nP : P ≠ C1 := HA.out.1.blk.ne_ HA.out.1.c1.blk (by decide)
  have nK : K ≠ C1 := HA.out.2.2.1.ne_ HA.out.1.c1.blk (by decide)
  have nQ : Q ≠ C1 := HA.out.2.1.ne_ HA.out.1.c1.blk (by decide)
  go_region_held3 (fun W => W.cell? ⟨P, 1, none⟩ = some (ptrV C1) ∧ W.cell? ⟨K, 1, none⟩ = some (i64 1) ∧ W.cell? ⟨Q, 0, none⟩ = some (i64 x.post.mine) ∧ W.cell? ⟨Q, 1, none⟩ = some (i64 x.post.yours) ∧ W.cell? ⟨Q, 2, none⟩ = some (i64 x.post.ack) ∧ W.cell? ⟨Q, 3, none⟩ = some (i64 x.post.seq) ∧ W.cell? ⟨Q, 4, none⟩ = some (strV (tb x.post.text)))
    (go_keep)
    (first
    | (go_at_call 24; refine (R1.out _ (HA.out.1.new_ ((Chg.refl [] W3).drew)).c1).mono ?_; rintro e w4 ⟨rfl, v', hch, hl, hg4⟩; have kP := cells_keep hg4 (b := P) (by first | exact lP | (simp; omega)) (by simpa using nP); have kK := cells_keep hg4 (b := K) (by first | exact lK | (simp; omega)) (by simpa using nK); have kQ := cells_keep hg4 (b := Q) (by first | exact lQ | (simp; omega)) (by simpa using nQ); have hs4 : W3.heap.size ≤ w4.heap.size := (by have := hg4.size; simp at this; omega); have oP : w4.heap.size ≠ P := (by omega); have oK : w4.heap.size ≠ K := (by omega); have oQ : w4.heap.size ≠ Q := (by omega))
    | (go_at_call 24; refine (R1.out _ (HA.out.1.new_ (((Chg.refl [] W3).alloc (.cells #[.string ⟨#[]⟩, .bool false, .bool false] 74)).drew)).c1).mono ?_; rintro e w4 ⟨rfl, v', hch, hl, hg4⟩; have kP := cells_keep hg4 (b := P) (by first | exact lP | (simp; omega)) (by simpa using nP); have kK := cells_keep hg4 (b := K) (by first | exact lK | (simp; omega)) (by simpa using nK); have kQ := cells_keep hg4 (b := Q) (by first | exact lQ | (simp; omega)) (by simpa using nQ); have hs4 : W3.heap.size ≤ w4.heap.size := (by have := hg4.size; simp at this; omega); have oP : w4.heap.size ≠ P := (by omega); have oK : w4.heap.size ≠ K := (by omega); have oQ : w4.heap.size ≠ Q := (by omega); have hH0 : Blk w4 W3.heap.size 74 #[.string ⟨#[]⟩, .bool false, .bool false] := (Blk.new W3 _ _).drew.chg hg4 (by simp; omega); have kH := fun j => hH0.cell j; have fH := fun j => hH0.frozen j))
  all_goals (
    first
    | (have hw : Chg [C1] W3.drew w4 := hg4
       have hg5 : Chg (C1 :: rowOf v1) W3.drew w4 := hw.mono (by intro k _ hk; simp at hk; subst hk; simp)
       have hP3 := HA.out.1.new_ ((Chg.refl [] W3).drew)
       have hP4 := hP3.upC1 hch (fun q h => .inl (hl q h)) (fun q h => by have := HA.out.1.lt (C1 :: rowOf v1) (by simp) q (List.mem_cons_of_mem _ (hl q h)); omega) hg5
       have hC4 : ChgF F b w w4 := (HA.out.2.2.2.1.trans (ChgF.of (S := []) ((Chg.refl [] W3).drew) HA.out.1.base (by simp))).trans (ChgF.of hg5 hP3.base (fun q hq => (hP3.lt (C1 :: rowOf v1) (by simp) q hq).1))
       have hZ := hP4.new_ ((Chg.refl [] w4).alloc (.cells #[(strV (tb none)), .bool false, .bool an] 74))
       have hZ2 := Blk.new w4 74 #[(strV (tb none)), .bool false, .bool an]
       have hZ3 : ChgF F b w (w4.alloc (.cells #[(strV (tb none)), .bool false, .bool an] 74)) := hC4.trans (ChgF.of (S := []) ((Chg.refl [] w4).alloc _) hP4.base (by simp))
       have hZ4 : (w4.alloc (.cells #[(strV (tb none)), .bool false, .bool an] 74)).cell? ⟨K, 1, none⟩ = some (i64 1) := (((Chg.refl [] w4).alloc _).cell (p := ⟨K, 1, none⟩) (by show K < _; omega) (by simp)).trans ((kK 1).trans eK)
       have HZ := Lib.hid (And.intro hZ (And.intro hZ2 (And.intro hZ3 hZ4)))
       clear hw hg5 hP3 hP4 hC4 hZ hZ2 hZ3 hZ4
       change Exit.then _ _ _ _ (w4.alloc (.cells #[(strV (tb none)), .bool false, .bool an] 74))
       generalize w4.alloc (.cells #[(strV (tb none)), .bool false, .bool an] 74) = WX at HZ ⊢
       obtain ⟨Hb, hHb⟩ : ∃ Hb, w4.heap.size = Hb := ⟨_, rfl⟩
       rw [hHb] at HZ
       simp only [hHb]
       clear hHb)
    | (have hw : Chg [C1] (W3.alloc (.cells #[.string ⟨#[]⟩, .bool false, .bool false] 74)).drew w4 := hg4
       have hg5 : Chg (C1 :: rowOf v1) (W3.alloc (.cells #[.string ⟨#[]⟩, .bool false, .bool false] 74)).drew w4 := hw.mono (by intro k _ hk; simp at hk; subst hk; simp)
       have hP3 := HA.out.1.new_ (((Chg.refl [] W3).alloc (.cells #[.string ⟨#[]⟩, .bool false, .bool false] 74)).drew)
       have hP4 := hP3.upC1 hch (fun q h => .inl (hl q h)) (fun q h => by have := HA.out.1.lt (C1 :: rowOf v1) (by simp) q (List.mem_cons_of_mem _ (hl q h)); omega) hg5
       have hC4 : ChgF F b w w4 := (HA.out.2.2.2.1.trans (ChgF.of (S := []) (((Chg.refl [] W3).alloc (.cells #[.string ⟨#[]⟩, .bool false, .bool false] 74)).drew) HA.out.1.base (by simp))).trans (ChgF.of hg5 hP3.base (fun q hq => (hP3.lt (C1 :: rowOf v1) (by simp) q hq).1))
       have hfar : ∀ a ∈ parts7 P C0 C1 N v0 v' vn1 g0 g1 x0 x1, W3.heap.size ∉ a := fun a ha hm => by
         have L := fun a ha h => (HA.out.1.lt a ha W3.heap.size h).2
         simp only [parts7, List.mem_cons, List.not_mem_nil, or_false] at ha
         rcases ha with rfl | rfl | rfl | rfl | rfl | rfl | rfl
         · have := L [P] (by simp) hm; omega
         · rcases List.mem_cons.1 hm with e | hm
           · have := L (C0 :: rowOf v0) (by simp) (by rw [e]; simp); omega
           · have := L (C0 :: rowOf v0) (by simp) (List.mem_cons_of_mem _ hm); omega
         · rcases List.mem_cons.1 hm with e | hm
           · omega
           · have := L (C1 :: rowOf v1) (by simp) (List.mem_cons_of_mem _ (hl _ hm)); omega
         · have := L (N :: rowOf vn1) (by simp) hm; omega
         · have := L (rowOf g0) (by simp) hm; omega
         · have := L (rowOf g1) (by simp) hm; omega
         · have := L (deep x0 ++ deep x1) (by simp) hm; omega
       have hgS : Chg [W3.heap.size] w4 (setPt w4 W3.heap.size (strV (tb none)) (.bool false) (.bool an)) := setPt_chg _ _ _ (Chg.refl _ _) (.inl (by simp))
       have hZ := hP4.far hgS (fun q hq a ha => (by simpa using hq : q = W3.heap.size) ▸ hfar a ha)
       have hZ2 := setPt_blk (strV (tb none)) (.bool false) (.bool an) hH0
       have hZ3 : ChgF F b w (setPt w4 W3.heap.size (strV (tb none)) (.bool false) (.bool an)) := hC4.trans (ChgF.of hgS hP4.base (fun q hq => (by simpa using hq : q = W3.heap.size) ▸ Or.inr HA.out.1.base))
       have hZ4 : (setPt w4 W3.heap.size (strV (tb none)) (.bool false) (.bool an)).cell? ⟨K, 1, none⟩ = some (i64 1) := (hgS.cell (p := ⟨K, 1, none⟩) (by show K < _; omega) (by simp; omega)).trans ((kK 1).trans ((((Chg.refl [] W3).alloc _).drew.cell (p := ⟨K, 1, none⟩) lK (by simp)).trans eK))
       have HZ := Lib.hid (And.intro hZ (And.intro hZ2 (And.intro hZ3 hZ4)))
       clear hw hg5 hP3 hP4 hC4 hZ hZ2 hZ3 hZ4 hgS hfar kH fH hH0
       change Exit.then _ _ _ _ (setPt w4 W3.heap.size (strV (tb none)) (.bool false) (.bool an))
       generalize setPt w4 W3.heap.size (strV (tb none)) (.bool false) (.bool an) = WX at HZ ⊢
       obtain ⟨Hb, hHb⟩ : ∃ Hb, W3.heap.size = Hb := ⟨_, rfl⟩
       rw [hHb] at HZ
       simp only [hHb]
       clear hHb))
  all_goals (
    clear kP kK kQ hch hl hg4 hs4 oP oK oQ
    have z1 : WX.cell? ⟨Hb, 1, none⟩ = some (.bool false) := HZ.out.2.1.cell 1
    have z5 : WX.cell? ⟨P, 5, none⟩ = some (.bool false) := HZ.out.1.blk.cell 5
    have f5 := HZ.out.1.blk.frozen 5
    have nH : Hb ≠ P := HZ.out.2.1.ne_ HZ.out.1.blk (by decide)
    have lH : Hb < WX.heap.size := HZ.out.2.1.lt
    go_wp2_with fail
    refine bodyPost_ret (results_none rfl _ _ _) rfl ?_
    rw [HF.out]
    simp only [Option.toList_none, List.append_nil]
    exact ⟨⟨_, rfl⟩, ⟨_, _, _, _, _, _, _, _, _, HZ.out.1.setBad⟩, HZ.out.2.2.1.trans (ChgF.of ((Chg.refl [P] WX).setCell (.inl (by simp)) _) HZ.out.1.base (fun q hq => (HZ.out.1.lt [P] (by simp) q hq).1))⟩)


set_option maxHeartbeats 4000000 in
set_option maxRecDepth 100000 in
theorem comes1_some (w : World) (F : List Nat) (b P C0 j : Nat) (p : Pair Msg) (x : Pk Msg) (m : Msg) (h : PairIn w F b P C0 p) (hx : p.net[j]? = some x) (hto : x.to = 1) (hcan : PkCan x.post.mine x.post.yours x.post.ack x.post.seq (tb x.post.text)) (hst : p.e1.yours ≤ x.post.mine) (hts : 0 < x.post.seq → x.post.text.isSome = true)
    (hf0 : 0 ≤ p.e1.first) (hf1 : p.e1.first ≤ 1099511627776) (hl0 : 0 ≤ p.e1.last) (hl1 : p.e1.last ≤ 1099511627776) (hlw : p.e1.wait.length ≤ 1099511627776) (hm : p.e1.hearsText x.post = some m) (hck : chkMsg m = true) (hhl : p.h1.length ≤ 1000000000) :
    Calls Try.prog 9 #[ptrV P, i64 (j : Int)] w (StepR w F b P C0 (p.comes j)) := by
  obtain ⟨C1, N, v0, v1, vn, g0, g1, x0, x1, h⟩ := h
  have hj : j < p.net.length := (List.getElem?_eq_some_iff.1 hx).1
  have d2 : w.cell? ⟨P, 2, none⟩ = some (ptrV N) := h.blk.cell 2
  have X := flat_get (enc := packC) (size := 3) (fun _ => rfl) p.net j x hx
  have T1 := Lib.hid (takeN_any N 0 p.net.length j vn (p.net.flatMap packC) x.frm 1 (ePk x.post.mine x.post.yours x.post.ack x.post.seq (tb x.post.text)) w h.net hj h.room (pack_one _) (X 0 (by decide)) (by have := X 1 (by decide); rw [this, ← hto]; rfl) (X 2 (by decide)))
  have D1 := Lib.hid (fun w => sdec_any x.post.mine x.post.yours x.post.ack x.post.seq (tb x.post.text) w hcan)
  have R1 := Lib.hid (fun (W : World) (hC : ChanAt W C1 0 v1 p.e1) => hear_any C1 0 v1 p.e1 x.post W hC hcan hst hts hf0 hf1 hl0 hl1 hlw)
  have hfin : p.comes j = { p with e1 := p.e1.hears x.post, h1 := p.h1 ++ (p.e1.hearsText x.post).toList, net := p.net.eraseIdx j } := by
    unfold Pair.comes
    rw [hx]
    simp [Pair.got, Pair.setE, Pair.addH, Pair.e, hto]
  rw [hm] at hfin R1
  have HF := Lib.hid hfin
  obtain ⟨i0, hi0, hz0, hz1, hz2⟩ := info_parts infoMsg
  have D2 := Lib.hid (fun w => dec_any m w hck)
  have HLE := Lib.hid hhl
  clear hck hhl
  have H := Lib.hid h
  have HJ := Lib.hid hj
  obtain ⟨an, han⟩ : ∃ an, p.e1.anew x.post = an := ⟨_, rfl⟩
  rw [han] at R1
  clear X hx hto hcan hst hts hf0 hf1 hl0 hl1 hlw hm hfin h hj han
  go_enter Try.func9, Try.ntmps9
  go_wp2_with fail
  (with_reducible refine T1.out.mono ?_)
  rintro e w1 ⟨rfl, vn1, hN1, hL1, hg1⟩
  have hP1 := PairIn.comesNet H.out HJ.out hN1 hL1 hg1
  have HC1 : Hid (ChgF F b w w1) := ChgF.of hg1 H.out.base (fun q hq => (H.out.lt (N :: rowOf vn) (by simp) q hq).1)
  have HP1 := Lib.hid hP1
  have HS1 := Lib.hid hg1.size
  clear hN1 hL1 hg1 hP1 d2 T1
  go_wp2_with fail
  (with_reducible refine (D1.out _).mono ?_)
  rintro e w2 ⟨rfl, hg2⟩
  have hP2 := (HP1.out.new_ ((Chg.refl [] w1).alloc (.cells #[i64 x.frm, i64 1, strV (ePk x.post.mine x.post.yours x.post.ack x.post.seq (tb x.post.text))] 45))).new_ hg2
  have hK2 : Blk w2 w1.heap.size 45 #[i64 x.frm, i64 1, strV (ePk x.post.mine x.post.yours x.post.ack x.post.seq (tb x.post.text))] := (Blk.new w1 _ _).chg hg2 (by simp)
  have hC2 : ChgF F b w w2 := HC1.out.trans (ChgF.of (((Chg.refl [] w1).alloc (.cells #[i64 x.frm, i64 1, strV (ePk x.post.mine x.post.yours x.post.ack x.post.seq (tb x.post.text))] 45)).trans hg2) HP1.out.base (by simp))
  have HP2 := Lib.hid (And.intro hP2 (And.intro hK2 hC2))
  clear hP2 hK2 hC2 hg2 HP1 HC1 D1
  go_wp2_with fail
  obtain ⟨hP2, hK2, hC2⟩ := HP2.out
  have eE : w2.cell? ⟨P, 1, none⟩ = some (ptrV C1) := hP2.blk.cell 1
  have eK : w2.cell? ⟨w1.heap.size, 1, none⟩ = some (i64 1) := hK2.cell 1
  have hP3 := hP2.new_ ((Chg.refl [] w2).alloc (.cells #[i64 x.post.mine, i64 x.post.yours, i64 x.post.ack, i64 x.post.seq, strV (tb x.post.text)] 68))
  have hQ3 := Blk.new w2 68 #[i64 x.post.mine, i64 x.post.yours, i64 x.post.ack, i64 x.post.seq, strV (tb x.post.text)]
  have hK3 := hK2.alloc (.cells #[i64 x.post.mine, i64 x.post.yours, i64 x.post.ack, i64 x.post.seq, strV (tb x.post.text)] 68)
  have hC3 : ChgF F b w (w2.alloc (.cells #[i64 x.post.mine, i64 x.post.yours, i64 x.post.ack, i64 x.post.seq, strV (tb x.post.text)] 68)) := hC2.trans (ChgF.of ((Chg.refl [] w2).alloc _) hP2.base (by simp))
  obtain ⟨K, hK⟩ : ∃ K, w1.heap.size = K := ⟨_, rfl⟩
  have HKG : Hid (∀ q ∈ rowOf g1, q < K) := fun q hq => by
    have e1 := (H.out.lt (rowOf g1) (by simp) q hq).2
    have e2 := HS1.out
    omega
  obtain ⟨Q, hQ⟩ : ∃ Q, w2.heap.size = Q := ⟨_, rfl⟩
  rw [hK] at hK3
  rw [hQ] at hQ3
  simp only [hK, hQ]
  have hQl := hQ3.lt
  have hKQ : K < Q := by rw [← hK, ← hQ]; exact hK2.lt
  have HA := Lib.hid (And.intro hP3 (And.intro hQ3 (And.intro hK3 (And.intro hC3 hKQ))))
  clear eE eK hP2 hK2 hC2 hP3 hQ3 hK3 hC3 HP2 hK hQ hQl hKQ
  generalize w2.alloc (.cells #[i64 x.post.mine, i64 x.post.yours, i64 x.post.ack, i64 x.post.seq, strV (tb x.post.text)] 68) = W3 at HA ⊢
  have eE : W3.cell? ⟨P, 1, none⟩ = some (ptrV C1) := HA.out.1.blk.cell 1
  have eK : W3.cell? ⟨K, 1, none⟩ = some (i64 1) := HA.out.2.2.1.cell 1
  have q0 : W3.cell? ⟨Q, 0, none⟩ = some (i64 x.post.mine) := HA.out.2.1.cell 0
  have q1 : W3.cell? ⟨Q, 1, none⟩ = some (i64 x.post.yours) := HA.out.2.1.cell 1
  have q2 : W3.cell? ⟨Q, 2, none⟩ = some (i64 x.post.ack) := HA.out.2.1.cell 2
  have q3 : W3.cell? ⟨Q, 3, none⟩ = some (i64 x.post.seq) := HA.out.2.1.cell 3
  have q4 : W3.cell? ⟨Q, 4, none⟩ = some (strV (tb x.post.text)) := HA.out.2.1.cell 4
  have lP : P < W3.heap.size := HA.out.1.blk.lt
  have lK : K < W3.heap.size := HA.out.2.2.1.lt
  have lQ : Q < W3.heap.size := HA.out.2.1.lt
  have lC : C1 < W3.heap.size := HA.out.1.c1.blk.lt
  have mP : W3.heap.size ≠ P := by omega
  have mK : W3.heap.size ≠ K := by omega
  have mQ : W3.heap.size ≠ Q := by omega
  have nP : P ≠ C1 := HA.out.1.blk.ne_ HA.out.1.c1.blk (by decide)
  have nK : K ≠ C1 := HA.out.2.2.1.ne_ HA.out.1.c1.blk (by decide)
  have nQ : Q ≠ C1 := HA.out.2.1.ne_ HA.out.1.c1.blk (by decide)
  go_region_held3 (fun W => W.cell? ⟨P, 1, none⟩ = some (ptrV C1) ∧ W.cell? ⟨K, 1, none⟩ = some (i64 1) ∧ W.cell? ⟨Q, 0, none⟩ = some (i64 x.post.mine) ∧ W.cell? ⟨Q, 1, none⟩ = some (i64 x.post.yours) ∧ W.cell? ⟨Q, 2, none⟩ = some (i64 x.post.ack) ∧ W.cell? ⟨Q, 3, none⟩ = some (i64 x.post.seq) ∧ W.cell? ⟨Q, 4, none⟩ = some (strV (tb x.post.text)))
    (go_keep)
    (first
    | (go_at_call 24; refine (R1.out _ (HA.out.1.new_ ((Chg.refl [] W3).drew)).c1).mono ?_; rintro e w4 ⟨rfl, v', hch, hl, hg4⟩; have kP := cells_keep hg4 (b := P) (by first | exact lP | (simp; omega)) (by simpa using nP); have kK := cells_keep hg4 (b := K) (by first | exact lK | (simp; omega)) (by simpa using nK); have kQ := cells_keep hg4 (b := Q) (by first | exact lQ | (simp; omega)) (by simpa using nQ); have hs4 : W3.heap.size ≤ w4.heap.size := (by have := hg4.size; simp at this; omega); have oP : w4.heap.size ≠ P := (by omega); have oK : w4.heap.size ≠ K := (by omega); have oQ : w4.heap.size ≠ Q := (by omega))
    | (go_at_call 24; refine (R1.out _ (HA.out.1.new_ (((Chg.refl [] W3).alloc (.cells #[.string ⟨#[]⟩, .bool false, .bool false] 74)).drew)).c1).mono ?_; rintro e w4 ⟨rfl, v', hch, hl, hg4⟩; have kP := cells_keep hg4 (b := P) (by first | exact lP | (simp; omega)) (by simpa using nP); have kK := cells_keep hg4 (b := K) (by first | exact lK | (simp; omega)) (by simpa using nK); have kQ := cells_keep hg4 (b := Q) (by first | exact lQ | (simp; omega)) (by simpa using nQ); have hs4 : W3.heap.size ≤ w4.heap.size := (by have := hg4.size; simp at this; omega); have oP : w4.heap.size ≠ P := (by omega); have oK : w4.heap.size ≠ K := (by omega); have oQ : w4.heap.size ≠ Q := (by omega); have hH0 : Blk w4 W3.heap.size 74 #[.string ⟨#[]⟩, .bool false, .bool false] := (Blk.new W3 _ _).drew.chg hg4 (by simp; omega); have kH := fun j => hH0.cell j; have fH := fun j => hH0.frozen j))
  all_goals (
    first
    | (have hw : Chg [C1] W3.drew w4 := hg4
       have hg5 : Chg (C1 :: rowOf v1) W3.drew w4 := hw.mono (by intro k _ hk; simp at hk; subst hk; simp)
       have hP3 := HA.out.1.new_ ((Chg.refl [] W3).drew)
       have hP4 := hP3.upC1 hch (fun q h => .inl (hl q h)) (fun q h => by have := HA.out.1.lt (C1 :: rowOf v1) (by simp) q (List.mem_cons_of_mem _ (hl q h)); omega) hg5
       have hC4 : ChgF F b w w4 := (HA.out.2.2.2.1.trans (ChgF.of (S := []) ((Chg.refl [] W3).drew) HA.out.1.base (by simp))).trans (ChgF.of hg5 hP3.base (fun q hq => (hP3.lt (C1 :: rowOf v1) (by simp) q hq).1))
       have hZ := hP4.new_ ((Chg.refl [] w4).alloc (.cells #[(strV (eMsg m)), .bool true, .bool an] 74))
       have hZ2 := Blk.new w4 74 #[(strV (eMsg m)), .bool true, .bool an]
       have hZ3 : ChgF F b w (w4.alloc (.cells #[(strV (eMsg m)), .bool true, .bool an] 74)) := hC4.trans (ChgF.of (S := []) ((Chg.refl [] w4).alloc _) hP4.base (by simp))
       have hZ4 : (w4.alloc (.cells #[(strV (eMsg m)), .bool true, .bool an] 74)).cell? ⟨K, 1, none⟩ = some (i64 1) := (((Chg.refl [] w4).alloc _).cell (p := ⟨K, 1, none⟩) (by show K < _; omega) (by simp)).trans ((kK 1).trans eK)
       have HZ := Lib.hid (And.intro hZ (And.intro hZ2 (And.intro hZ3 hZ4)))
       clear hw hg5 hP3 hP4 hC4 hZ hZ2 hZ3 hZ4
       change Exit.then _ _ _ _ (w4.alloc (.cells #[(strV (eMsg m)), .bool true, .bool an] 74))
       generalize w4.alloc (.cells #[(strV (eMsg m)), .bool true, .bool an] 74) = WX at HZ ⊢
       obtain ⟨Hb, hHb⟩ : ∃ Hb, w4.heap.size = Hb := ⟨_, rfl⟩
       rw [hHb] at HZ
       simp only [hHb]
       clear hHb)
    | (have hw : Chg [C1] (W3.alloc (.cells #[.string ⟨#[]⟩, .bool false, .bool false] 74)).drew w4 := hg4
       have hg5 : Chg (C1 :: rowOf v1) (W3.alloc (.cells #[.string ⟨#[]⟩, .bool false, .bool false] 74)).drew w4 := hw.mono (by intro k _ hk; simp at hk; subst hk; simp)
       have hP3 := HA.out.1.new_ (((Chg.refl [] W3).alloc (.cells #[.string ⟨#[]⟩, .bool false, .bool false] 74)).drew)
       have hP4 := hP3.upC1 hch (fun q h => .inl (hl q h)) (fun q h => by have := HA.out.1.lt (C1 :: rowOf v1) (by simp) q (List.mem_cons_of_mem _ (hl q h)); omega) hg5
       have hC4 : ChgF F b w w4 := (HA.out.2.2.2.1.trans (ChgF.of (S := []) (((Chg.refl [] W3).alloc (.cells #[.string ⟨#[]⟩, .bool false, .bool false] 74)).drew) HA.out.1.base (by simp))).trans (ChgF.of hg5 hP3.base (fun q hq => (hP3.lt (C1 :: rowOf v1) (by simp) q hq).1))
       have hfar : ∀ a ∈ parts7 P C0 C1 N v0 v' vn1 g0 g1 x0 x1, W3.heap.size ∉ a := fun a ha hm => by
         have L := fun a ha h => (HA.out.1.lt a ha W3.heap.size h).2
         simp only [parts7, List.mem_cons, List.not_mem_nil, or_false] at ha
         rcases ha with rfl | rfl | rfl | rfl | rfl | rfl | rfl
         · have := L [P] (by simp) hm; omega
         · rcases List.mem_cons.1 hm with e | hm
           · have := L (C0 :: rowOf v0) (by simp) (by rw [e]; simp); omega
           · have := L (C0 :: rowOf v0) (by simp) (List.mem_cons_of_mem _ hm); omega
         · rcases List.mem_cons.1 hm with e | hm
           · omega
           · have := L (C1 :: rowOf v1) (by simp) (List.mem_cons_of_mem _ (hl _ hm)); omega
         · have := L (N :: rowOf vn1) (by simp) hm; omega
         · have := L (rowOf g0) (by simp) hm; omega
         · have := L (rowOf g1) (by simp) hm; omega
         · have := L (deep x0 ++ deep x1) (by simp) hm; omega
       have hgS : Chg [W3.heap.size] w4 (setPt w4 W3.heap.size (strV (eMsg m)) (.bool true) (.bool an)) := setPt_chg _ _ _ (Chg.refl _ _) (.inl (by simp))
       have hZ := hP4.far hgS (fun q hq a ha => (by simpa using hq : q = W3.heap.size) ▸ hfar a ha)
       have hZ2 := setPt_blk (strV (eMsg m)) (.bool true) (.bool an) hH0
       have hZ3 : ChgF F b w (setPt w4 W3.heap.size (strV (eMsg m)) (.bool true) (.bool an)) := hC4.trans (ChgF.of hgS hP4.base (fun q hq => (by simpa using hq : q = W3.heap.size) ▸ Or.inr HA.out.1.base))
       have hZ4 : (setPt w4 W3.heap.size (strV (eMsg m)) (.bool true) (.bool an)).cell? ⟨K, 1, none⟩ = some (i64 1) := (hgS.cell (p := ⟨K, 1, none⟩) (by show K < _; omega) (by simp; omega)).trans ((kK 1).trans ((((Chg.refl [] W3).alloc _).drew.cell (p := ⟨K, 1, none⟩) lK (by simp)).trans eK))
       have HZ := Lib.hid (And.intro hZ (And.intro hZ2 (And.intro hZ3 hZ4)))
       clear hw hg5 hP3 hP4 hC4 hZ hZ2 hZ3 hZ4 hgS hfar kH fH hH0
       change Exit.then _ _ _ _ (setPt w4 W3.heap.size (strV (eMsg m)) (.bool true) (.bool an))
       generalize setPt w4 W3.heap.size (strV (eMsg m)) (.bool true) (.bool an) = WX at HZ ⊢
       obtain ⟨Hb, hHb⟩ : ∃ Hb, W3.heap.size = Hb := ⟨_, rfl⟩
       rw [hHb] at HZ
       simp only [hHb]
       clear hHb))
  all_goals (
    clear kP kK kQ hch hl hg4 hs4 oP oK oQ
    have z1 : WX.cell? ⟨Hb, 1, none⟩ = some (.bool true) := HZ.out.2.1.cell 1
    have z5 : WX.cell? ⟨P, 5, none⟩ = some (.bool false) := HZ.out.1.blk.cell 5
    have f5 := HZ.out.1.blk.frozen 5
    have nH : Hb ≠ P := HZ.out.2.1.ne_ HZ.out.1.blk (by decide)
    have lH : Hb < WX.heap.size := HZ.out.2.1.lt
    have z0 : WX.cell? ⟨Hb, 0, none⟩ = some (strV (eMsg m)) := HZ.out.2.1.cell 0
    go_wp2_with fail
    (with_reducible refine (D2.out _).mono ?_)
    rintro e w6 ⟨s1, s2, s3, rfl, hin, hg6, hnw⟩
    have hgS : Chg [P] WX (WX.setCell ⟨P, 5, none⟩ (.bool false)) := (Chg.refl [P] WX).setCell (.inl (by simp)) _
    have hP5 := HZ.out.1.setBad
    have hC5 : ChgF F b w (WX.setCell ⟨P, 5, none⟩ (.bool false)) := HZ.out.2.2.1.trans (ChgF.of hgS HZ.out.1.base (fun q hq => (HZ.out.1.lt [P] (by simp) q hq).1))
    have hP6 := hP5.new_ hg6
    have hC6 := hC5.trans (ChgF.of (S := []) hg6 hP5.base (by simp))
    have nKP : K ≠ P := fun e => by have e2 := HZ.out.1.blk.cell 1; rw [← e] at e2; rw [HZ.out.2.2.2] at e2; cases e2
    have k6 : w6.cell? ⟨K, 1, none⟩ = some (i64 1) := ((hg6.cell (p := ⟨K, 1, none⟩) (cell_lt ((hgS.cell (p := ⟨K, 1, none⟩) (cell_lt HZ.out.2.2.2) (by simpa using nKP)).trans HZ.out.2.2.2)) (by simp)).trans (hgS.cell (p := ⟨K, 1, none⟩) (cell_lt HZ.out.2.2.2) (by simpa using nKP))).trans HZ.out.2.2.2
    have lK6 : K < w6.heap.size := cell_lt k6
    have y5 : w6.cell? ⟨P, 5, none⟩ = some (.bool false) := hP6.blk.cell 5
    have g5 := hP6.blk.frozen 5
    have lP6 := hP6.blk.lt
    have nP6 : ¬ (P = w6.heap.size) := by omega
    have hs6 : WX.heap.size ≤ w6.heap.size := by have := hg6.size; simpa using this
    have hyq : ∀ q ∈ (⟨m, s1, s2, s3⟩ : HM).blks, WX.heap.size ≤ q ∧ q < w6.heap.size := fun q hq => by
      simp only [HM.blks, List.mem_append] at hq
      have := hnw q hq
      simpa using this
    have HY := Lib.hid (And.intro hP6 (And.intro hC6 (And.intro hin hyq)))
    have HP0 := Lib.hid HZ.out.1
    clear z0 z1 z5 f5 nH lH hP5 hP6 hC5 hC6 hin hg6 hnw hyq hgS HZ
    go_wp2_with fail
    have hPa := HY.out.1.setBad
    have hgP : Chg [P] w6 (w6.setCell ⟨P, 5, none⟩ (.bool false)) := (Chg.refl [P] _).setCell (.inl (by simp)) _
    have hP8 := hPa.new_ ((Chg.refl [] (w6.setCell ⟨P, 5, none⟩ (.bool false))).alloc (.cells #[i64 m.kind, i64 m.t, i64 m.n, .slice s1.1 m.cmds.length s1.2, .slice s2.1 m.buns.length s2.2, .slice s3.1 m.ids.length s3.2] 36))
    have hM8 : Blk ((w6.setCell ⟨P, 5, none⟩ (.bool false)).alloc (.cells #[i64 m.kind, i64 m.t, i64 m.n, .slice s1.1 m.cmds.length s1.2, .slice s2.1 m.buns.length s2.2, .slice s3.1 m.ids.length s3.2] 36)) w6.heap.size 36 #[i64 m.kind, i64 m.t, i64 m.n, .slice s1.1 m.cmds.length s1.2, .slice s2.1 m.buns.length s2.2, .slice s3.1 m.ids.length s3.2] := by
      have := Blk.new (w6.setCell ⟨P, 5, none⟩ (.bool false)) 36 #[i64 m.kind, i64 m.t, i64 m.n, .slice s1.1 m.cmds.length s1.2, .slice s2.1 m.buns.length s2.2, .slice s3.1 m.ids.length s3.2]
      rwa [World.size_setCell] at this
    have hC8 : ChgF F b w ((w6.setCell ⟨P, 5, none⟩ (.bool false)).alloc (.cells #[i64 m.kind, i64 m.t, i64 m.n, .slice s1.1 m.cmds.length s1.2, .slice s2.1 m.buns.length s2.2, .slice s3.1 m.ids.length s3.2] 36)) := (HY.out.2.1.trans (ChgF.of hgP HY.out.1.base (fun q hq => (HY.out.1.lt [P] (by simp) q hq).1))).trans (ChgF.of (S := []) ((Chg.refl [] _).alloc _) hPa.base (by simp))
    have hW8 : Chg [P] w6 ((w6.setCell ⟨P, 5, none⟩ (.bool false)).alloc (.cells #[i64 m.kind, i64 m.t, i64 m.n, .slice s1.1 m.cmds.length s1.2, .slice s2.1 m.buns.length s2.2, .slice s3.1 m.ids.length s3.2] 36)) := hgP.alloc _
    have k8 : ((w6.setCell ⟨P, 5, none⟩ (.bool false)).alloc (.cells #[i64 m.kind, i64 m.t, i64 m.n, .slice s1.1 m.cmds.length s1.2, .slice s2.1 m.buns.length s2.2, .slice s3.1 m.ids.length s3.2] 36)).cell? ⟨K, 1, none⟩ = some (i64 1) := (hW8.cell (p := ⟨K, 1, none⟩) lK6 (by simpa using nKP)).trans k6
    obtain ⟨M, hM⟩ : ∃ M, w6.heap.size = M := ⟨_, rfl⟩
    have hs8 : ((w6.setCell ⟨P, 5, none⟩ (.bool false)).alloc (.cells #[i64 m.kind, i64 m.t, i64 m.n, .slice s1.1 m.cmds.length s1.2, .slice s2.1 m.buns.length s2.2, .slice s3.1 m.ids.length s3.2] 36)).heap.size = M + 1 := by simp [hM]
    have HQ := Lib.hid (And.intro hP8 (And.intro hM8 (And.intro hC8 (And.intro hW8 hs8))))
    rw [hM] at HQ
    simp only [hM]
    have lKM : K < M := by omega
    have lPM : P < M := by omega
    clear hPa hP8 hgP hM8 hC8 hW8 hs8 y5 g5 lP6 nP6 lK6 k6
    generalize (w6.setCell ⟨P, 5, none⟩ (.bool false)).alloc (.cells #[i64 m.kind, i64 m.t, i64 m.n, .slice s1.1 m.cmds.length s1.2, .slice s2.1 m.buns.length s2.2, .slice s3.1 m.ids.length s3.2] 36) = W8 at HQ k8 ⊢
    obtain ⟨GA, GC, hGG⟩ := own_slice' HQ.out.1.h1.own
    obtain ⟨G, hGe⟩ : ∃ G, G = g1 := ⟨_, rfl⟩
    have eG : W8.cell? ⟨P, 4, none⟩ = some (.slice GA x1.length GC) := by rw [← hGG]; exact HQ.out.1.blk.cell 4
    have fG := HQ.out.1.blk.frozen 4
    have kM := fun j => HQ.out.2.1.cell j
    have hown := HQ.out.1.h1.own
    rw [hGG] at hown
    have HOW := Lib.hid hown
    have HGG := Lib.hid hGG
    have hm0 := HQ.out.1.m1
    have hxl : x1.length ≤ 1000000000 := by have := HLE.out; rw [← show _ = p.h1 from hm0, List.length_map] at this; exact this
    have hs8 := HQ.out.2.2.2.2
    have nPs : ¬ (P = W8.heap.size) := by omega
    have nKs : ¬ (K = W8.heap.size) := by omega
    have nMs : ¬ (M = W8.heap.size) := by omega
    have lPW : P < W8.heap.size := by omega
    have lKW : K < W8.heap.size := by omega
    have lMW : M < W8.heap.size := by omega
    have eG2 : ∀ o, (W8.alloc o).cell? ⟨P, 4, none⟩ = some (.slice GA x1.length GC) := fun o => (((Chg.refl [] W8).alloc o).cell (p := ⟨P, 4, none⟩) lPW (by simp)).trans eG
    have k82 : ∀ o, (W8.alloc o).cell? ⟨K, 1, none⟩ = some (i64 1) := fun o => (((Chg.refl [] W8).alloc o).cell (p := ⟨K, 1, none⟩) lKW (by simp)).trans k8
    have kM2 : ∀ o i, (W8.alloc o).cell? ⟨M, i, none⟩ = W8.cell? ⟨M, i, none⟩ := fun o i => ((Chg.refl [] W8).alloc o).cell (p := ⟨M, i, none⟩) lMW (by simp)
    have HS8 := Lib.hid hs8
    clear hGG hGe hown hm0 hs8
    obtain ⟨xn, hxn⟩ : ∃ xn, x1.length = xn := ⟨_, rfl⟩
    have HXN := Lib.hid hxn
    rw [hxn] at hxl eG
    simp only [hxn] at eG2
    clear hxn
    have e50 : W8.cell? ⟨M, 0, none⟩ = some (i64 m.kind) := HQ.out.2.1.cell 0
    have e51 : W8.cell? ⟨M, 1, none⟩ = some (i64 m.t) := HQ.out.2.1.cell 1
    have e52 : W8.cell? ⟨M, 2, none⟩ = some (i64 m.n) := HQ.out.2.1.cell 2
    have e53 : W8.cell? ⟨M, 3, none⟩ = some (.slice s1.1 m.cmds.length s1.2) := HQ.out.2.1.cell 3
    have e54 : W8.cell? ⟨M, 4, none⟩ = some (.slice s2.1 m.buns.length s2.2) := HQ.out.2.1.cell 4
    have e55 : W8.cell? ⟨M, 5, none⟩ = some (.slice s3.1 m.ids.length s3.2) := HQ.out.2.1.cell 5
    have nKP' : ¬ (P = K) := fun e => nKP e.symm
    have nMP : ¬ (M = P) := by omega
    have nMP' : ¬ (P = M) := by omega
    have sK : W8.heap.size ≠ K := by omega
    have sM : W8.heap.size ≠ M := by omega
    clear kM kM2 k82
    have k82 := fun o => (((Chg.refl [] W8).alloc o).cell (p := ⟨K, 1, none⟩) lKW (by simp)).trans k8
    rw [show Op.load 22 (Operand.tmp 83) = ldOp 22 (Operand.tmp 83) from rfl]
    have hX : ∀ t x, ldOp t x = Op.load t x := fun _ _ => rfl
    go_region_held3 (fun W => W.cell? ⟨K, 1, none⟩ = some (i64 1) ∧ W.cell? ⟨M, 0, none⟩ = some (i64 m.kind) ∧ W.cell? ⟨M, 1, none⟩ = some (i64 m.t) ∧ W.cell? ⟨M, 2, none⟩ = some (i64 m.n) ∧ W.cell? ⟨M, 3, none⟩ = some (.slice s1.1 m.cmds.length s1.2) ∧ W.cell? ⟨M, 4, none⟩ = some (.slice s2.1 m.buns.length s2.2) ∧ W.cell? ⟨M, 5, none⟩ = some (.slice s3.1 m.ids.length s3.2)) (go_keep) (first | (refine step_append_own' (by rfl) (.tmp 84) (.tmp 86) 22 rfl 0 36 i0 _ 6 96 Try.underlying22 hi0 hz0 hz1 hz2 rfl (by decide) (.slice GA xn GC) xn (x1.flatMap msgC) rfl (by have := (HOW.out.alloc (.cells #[i64 m.kind, i64 m.t, i64 m.n, .slice s1.1 m.cmds.length s1.2, .slice s2.1 m.buns.length s2.2, .slice s3.1 m.ids.length s3.2] 36)).drew; rw [HXN.out] at this; exact this) ⟨W8.heap.size, 0, none⟩ 1 1 (msgC ⟨m, s1, s2, s3⟩) rfl rfl (World.news_of_block (w := W8.alloc (.cells #[i64 m.kind, i64 m.t, i64 m.n, .slice s1.1 m.cmds.length s1.2, .slice s2.1 m.buns.length s2.2, .slice s3.1 m.ids.length s3.2] 36)) (Blk.new W8 36 #[i64 m.kind, i64 m.t, i64 m.n, .slice s1.1 m.cmds.length s1.2, .slice s2.1 m.buns.length s2.2, .slice s3.1 m.ids.length s3.2])) (by simp [Value.oneCell']) (by unfold maxLen; omega) (by omega) (by omega) ?_; intro v2 w7 hown2 hgrow hat; obtain ⟨B2, c2, rfl⟩ := own_slice' hown2; have hB7 : Blk w7 P 41 _ := ((hgrow.block P (by show P < (W8.alloc _).heap.size; simp; omega) (fun e => by have e2 := HQ.out.1.off (i := 0) (j := 5) (by decide) rfl rfl P (by simp); rw [HGG.out, HXN.out] at e2; exact e2 (by rw [rowOf, ← e]; simp))).trans ((HQ.out.1.blk).alloc (.cells #[i64 m.kind, i64 m.t, i64 m.n, .slice s1.1 m.cmds.length s1.2, .slice s2.1 m.buns.length s2.2, .slice s3.1 m.ids.length s3.2] 36))); have q1 : w7.cell? ⟨P, 4, none⟩ = some g1 := hB7.cell 4; have f1 := hB7.frozen 4; have k7 : w7.cell? ⟨K, 1, none⟩ = some (i64 1) := (hgrow.cell_far ⟨K, 1, none⟩ (by show K < (W8.alloc _).heap.size; simp; omega) (fun e => by have e3 : K ∈ rowOf (.slice GA xn GC) := (by rw [rowOf, ← e]; simp); rw [← HXN.out, ← HGG.out] at e3; exact absurd (HKG.out K e3) (Nat.lt_irrefl _))).trans (k82 _); have kM7 : ∀ i, w7.cell? ⟨M, i, none⟩ = W8.cell? ⟨M, i, none⟩ := (fun i => (hgrow.cell_far ⟨M, i, none⟩ (by show M < (W8.alloc _).heap.size; simp; omega) (fun e => by have e3 : M ∈ rowOf (.slice GA xn GC) := (by rw [rowOf, ← e]; simp); rw [← HXN.out, ← HGG.out] at e3; have e4 := HKG.out M e3; omega)).trans (((Chg.refl [] W8).alloc _).cell (p := ⟨M, i, none⟩) lMW (by simp)))))
    all_goals (
      have e0 : rowOf (.slice GA xn GC) = rowOf g1 := by rw [← HXN.out, ← HGG.out]
      have hS1 : Chg (rowOf (.slice GA xn GC)) (W8.alloc (.cells #[i64 m.kind, i64 m.t, i64 m.n, .slice s1.1 m.cmds.length s1.2, .slice s2.1 m.buns.length s2.2, .slice s3.1 m.ids.length s3.2] 36)).drew w7 := Chg.of_grown hgrow (fun q e => .inl (by rw [rowOf, e]; simp))
      have hS2 : Chg (P :: rowOf g1) W8 w7 := (((Chg.refl (P :: rowOf g1) W8).alloc _).drew).then_ hS1 (fun i hi hm => List.mem_cons_of_mem _ (e0 ▸ hm))
      have hS3 : Chg (P :: rowOf g1) W8 (w7.setCell ⟨P, 4, none⟩ (.slice B2 (xn + 1) c2)) := hS2.setCell (.inl (by simp)) _
      have hne := own_ne_blk hown2 hB7 (by decide)
      have hB9 := hB7.set_ 4 (.slice B2 (xn + 1) c2)
      have hO9 : (w7.setCell ⟨P, 4, none⟩ (.slice B2 (xn + 1) c2)).ownsRow 0 36 6 (.slice B2 (xn + 1) c2) (x1.length + 1) ((x1 ++ [(⟨m, s1, s2, s3⟩ : HM)]).flatMap msgC) := by
        rw [HXN.out, List.flatMap_append]
        exact own_chg hown2 ((Chg.refl [P] w7).setCell (p := ⟨P, 4, none⟩) (.inl (by simp)) _) (by intro q hq hm; simp at hm; subst hm; exact hne hq)
      have hL9 : Lies W8 g1 (.slice B2 (xn + 1) c2) := by
        have := Lies.of_at (w := W8) hat (by show W8.heap.size ≤ (W8.alloc _).heap.size; simp)
        intro q hq
        rcases this q hq with h1 | h1
        · exact .inl (e0 ▸ h1)
        · exact .inr h1
      have hlow : ∀ q ∈ P :: rowOf g1, q < WX.heap.size := fun q hq => by
        rcases List.mem_cons.1 hq with e | hq
        · exact (HP0.out.lt [P] (by simp) q (by rw [e]; simp)).2
        · exact (HP0.out.lt (rowOf g1) (by simp) q hq).2
      have hI9 : MsgIn (w7.setCell ⟨P, 4, none⟩ (.slice B2 (xn + 1) c2)) m s1 s2 s3 := HY.out.2.2.1.chg ((HQ.out.2.2.2.1.mono (S' := P :: rowOf g1) (by intro k _ hk; simp at hk; subst hk; simp)).trans hS3) (fun k hk => by
        have hb : k ∉ (⟨m, s1, s2, s3⟩ : HM).blks := fun hm => by have e1 := hlow k hk; have e2 := (HY.out.2.2.2 k hm).1; omega
        simpa [HM.blks] using hb)
      have hF9 := HQ.out.1.upH1 (y := (⟨m, s1, s2, s3⟩ : HM)) hB9 hO9 hL9 hS3 hI9 (fun q hq => by
        have e1 := HY.out.2.2.2 q hq
        have e2 := HP0.out.base
        refine ⟨.inr (by omega), by omega, fun a ha hm => ?_⟩
        have := (HP0.out.lt a ha q hm).2
        omega)
      have hC9 := HQ.out.2.2.1.trans (ChgF.of hS3 HQ.out.1.base (fun q hq => by
        rcases List.mem_cons.1 hq with e | hq
        · exact (HQ.out.1.lt [P] (by simp) q (by rw [e]; simp)).1
        · exact (HQ.out.1.lt (rowOf g1) (by simp) q hq).1))
      have HFIN := Lib.hid (And.intro hF9 hC9)
      clear hS1 hS2 hS3 hne hB9 hO9 hL9 hlow hI9 hF9 hC9 e0 hgrow hat hown2 hB7
      go_wp2_with fail
      refine bodyPost_ret (results_none rfl _ _ _) rfl ?_
      rw [HF.out]
      exact ⟨⟨_, rfl⟩, ⟨_, _, _, _, _, _, _, _, _, HFIN.out.1⟩, HFIN.out.2⟩))

end Go.Proofs.Yteajdkneiejlaaa

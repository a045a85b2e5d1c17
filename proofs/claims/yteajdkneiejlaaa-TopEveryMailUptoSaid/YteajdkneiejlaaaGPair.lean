/- The pair of two nodes in memory: its parts, that they have nothing in common, and what is kept of them when one of them changes. -/
import Derived.Test.YteajdkneiejlaaaGHearA
import Derived.Test.YteajdkneiejlaaaGDbl
namespace Go.Proofs.Yteajdkneiejlaaa
open Go.RowKit Hg

/-- no two of these lists have a block in common -/
def Apart (L : List (List Nat)) : Prop := ∀ (i j : Nat) (a b : List Nat), i ≠ j → L[i]? = some a → L[j]? = some b → ∀ q, q ∈ a → q ∉ b

theorem Apart.set {L : List (List Nat)} {n : Nat} (h : Apart L) (hlt : ∀ a ∈ L, ∀ q ∈ a, q < n) (i : Nat) (a b : List Nat) (ha : L[i]? = some a) (hb : ∀ q ∈ b, q ∈ a ∨ n ≤ q) : Apart (L.set i b) := by
  have hi := (List.getElem?_eq_some_iff.1 ha).1
  intro j k x y hjk hx hy q hq hm
  rw [List.getElem?_set] at hx hy
  by_cases e1 : i = j
  · subst e1
    rw [if_pos rfl, if_pos hi] at hx
    rw [if_neg hjk] at hy
    injection hx with hx
    subst hx
    rcases hb q hq with hqa | hqn
    · exact h i k a y hjk ha hy q hqa hm
    · have := hlt y (List.mem_of_getElem? hy) q hm; omega
  · rw [if_neg e1] at hx
    by_cases e2 : i = k
    · subst e2
      rw [if_pos rfl, if_pos hi] at hy
      injection hy with hy
      subst hy
      rcases hb q hm with hqa | hqn
      · exact h j i x a hjk hx ha q hq hqa
      · have := hlt x (List.mem_of_getElem? hx) q hq; omega
    · rw [if_neg e2] at hy
      exact h j k x y hjk hx hy q hq hm

/-- a message and where its lists lie -/
structure HM where
  m : Msg
  s1 : Option Addr × Nat
  s2 : Option Addr × Nat
  s3 : Option Addr × Nat
def HM.blks (x : HM) : List Nat := blkOf x.s1.1 ++ (blkOf x.s2.1 ++ blkOf x.s3.1)
def deep (l : List HM) : List Nat := l.flatMap HM.blks
abbrev msgC (x : HM) : List Value := [i64 x.m.kind, i64 x.m.t, i64 x.m.n, .slice x.s1.1 x.m.cmds.length x.s1.2, .slice x.s2.1 x.m.buns.length x.s2.2, .slice x.s3.1 x.m.ids.length x.s3.2]
/-- a slice of messages that the call owns -/
structure HeardAt (w : World) (g : Value) (l : List HM) : Prop where
  own : w.ownsRow 0 36 6 g l.length (l.flatMap msgC)
  ins : ∀ x ∈ l, MsgIn w x.m x.s1 x.s2 x.s3
theorem HeardAt.chg {w w' : World} {S : List Nat} {g : Value} {l : List HM} (h : HeardAt w g l) (hg : Chg S w w') (h1 : ∀ q ∈ S, q ∉ rowOf g) (h2 : ∀ q ∈ S, q ∉ deep l) : HeardAt w' g l := by
  refine ⟨own_chg h.own hg (fun q hq hm => h1 q hm (by rw [rowOf, hq]; simp)), fun x hx => (h.ins x hx).chg hg fun k hk => ?_⟩
  have hd := h2 k hk
  unfold deep at hd
  have : k ∉ x.blks := fun hm => hd (List.mem_flatMap.2 ⟨x, hx, hm⟩)
  simpa [HM.blks] using this

abbrev ptrV (b : Nat) : Value := .pointer (some ⟨b, 0, none⟩)
abbrev packC (x : Pk Msg) : List Value := [i64 x.frm, i64 x.to, strV (ePk x.post.mine x.post.yours x.post.ack x.post.seq (tb x.post.text))]

theorem NetAt.chg {w w' : World} {S : List Nat} {N base n : Nat} {v : Value} {xs : List Value} (h : NetAt w N base n v xs) (hg : Chg S w w') (h1 : ∀ q ∈ S, q ∉ N :: rowOf v) : NetAt w' N base n v xs :=
  ⟨h.1.chg hg (fun hm => h1 N hm (by simp)), own_chg h.2.1 hg (fun q hq hm => h1 q hm (by rw [rowOf, hq]; simp)), h.2.2⟩

/-- the blocks of a pair, part by part -/
abbrev parts7 (P C0 C1 N : Nat) (v0 v1 vn g0 g1 : Value) (x0 x1 : List HM) : List (List Nat) :=
  [[P], C0 :: rowOf v0, C1 :: rowOf v1, N :: rowOf vn, rowOf g0, rowOf g1, deep x0 ++ deep x1]

structure PairAt (w : World) (F : List Nat) (b P C0 C1 N : Nat) (v0 v1 vn g0 g1 : Value) (p : Pair Msg) (x0 x1 : List HM) : Prop where
  blk : Blk w P 41 #[ptrV C0, ptrV C1, ptrV N, g0, g1, .bool false]
  c0 : ChanAt w C0 0 v0 p.e0
  c1 : ChanAt w C1 0 v1 p.e1
  net : NetAt w N 0 p.net.length vn (p.net.flatMap packC)
  h0 : HeardAt w g0 x0
  h1 : HeardAt w g1 x1
  m0 : x0.map HM.m = p.h0
  m1 : x1.map HM.m = p.h1
  room : p.net.length ≤ 4096
  apart : Apart (parts7 P C0 C1 N v0 v1 vn g0 g1 x0 x1)
  lt : ∀ a ∈ parts7 P C0 C1 N v0 v1 vn g0 g1 x0 x1, ∀ q ∈ a, (q ∈ F ∨ b ≤ q) ∧ q < w.heap.size
  base : b ≤ w.heap.size

/-- but for the blocks of F, and those from b on, all is as it was -/
structure ChgF (F : List Nat) (b : Nat) (w w' : World) : Prop where
  os : w'.os = w.os
  tape : w'.tape = w.tape
  output : w'.output = w.output
  size : w.heap.size ≤ w'.heap.size
  block : ∀ k, k < b → k ∉ F → w'.heap[k]? = w.heap[k]?
theorem ChgF.refl (F : List Nat) (b : Nat) (w : World) : ChgF F b w w := ⟨rfl, rfl, rfl, Nat.le_refl _, fun _ _ _ => rfl⟩
theorem ChgF.trans {F : List Nat} {b : Nat} {w w' w'' : World} (h : ChgF F b w w') (k : ChgF F b w' w'') : ChgF F b w w'' :=
  ⟨k.os.trans h.os, k.tape.trans h.tape, k.output.trans h.output, Nat.le_trans h.size k.size, fun i hi hn => (k.block i hi hn).trans (h.block i hi hn)⟩
theorem ChgF.of {F S : List Nat} {b : Nat} {w w' : World} (h : Chg S w w') (hb : b ≤ w.heap.size) (hS : ∀ q ∈ S, q ∈ F ∨ b ≤ q) : ChgF F b w w' :=
  ⟨h.os, h.tape, h.output, h.size, fun k hk hn => h.block k (by omega) (fun hm => by rcases hS k hm with h | h; exact hn h; omega)⟩
theorem ChgF.chg {F : List Nat} {w w' : World} (h : ChgF F w.heap.size w w') : Chg F w w' := ⟨h.os, h.tape, h.output, h.size, fun k hk hn => h.block k hk hn⟩

section
variable {w w' : World} {F : List Nat} {b P C0 C1 N : Nat} {v0 v1 vn g0 g1 : Value} {p : Pair Msg} {x0 x1 : List HM}

theorem PairAt.lt' (h : PairAt w F b P C0 C1 N v0 v1 vn g0 g1 p x0 x1) : ∀ a ∈ parts7 P C0 C1 N v0 v1 vn g0 g1 x0 x1, ∀ q ∈ a, q < w.heap.size := fun a ha q hq => (h.lt a ha q hq).2
theorem PairAt.off (h : PairAt w F b P C0 C1 N v0 v1 vn g0 g1 p x0 x1) {i j : Nat} {a b : List Nat} (hij : i ≠ j) (ha : (parts7 P C0 C1 N v0 v1 vn g0 g1 x0 x1)[i]? = some a) (hb : (parts7 P C0 C1 N v0 v1 vn g0 g1 x0 x1)[j]? = some b) : ∀ q ∈ a, q ∉ b :=
  h.apart i j a b hij ha hb

/-- another frame -/
theorem PairAt.frame (h : PairAt w F b P C0 C1 N v0 v1 vn g0 g1 p x0 x1) {F' : List Nat} {b' : Nat} (hb : b' ≤ w.heap.size) (hF : ∀ a ∈ parts7 P C0 C1 N v0 v1 vn g0 g1 x0 x1, ∀ q ∈ a, q ∈ F' ∨ b' ≤ q) : PairAt w F' b' P C0 C1 N v0 v1 vn g0 g1 p x0 x1 :=
  ⟨h.blk, h.c0, h.c1, h.net, h.h0, h.h1, h.m0, h.m1, h.room, h.apart, fun a ha q hq => ⟨hF a ha q hq, (h.lt a ha q hq).2⟩, hb⟩

/-- new blocks alone -/
theorem PairAt.new_ (h : PairAt w F b P C0 C1 N v0 v1 vn g0 g1 p x0 x1) (hg : Chg [] w w') : PairAt w' F b P C0 C1 N v0 v1 vn g0 g1 p x0 x1 :=
  ⟨h.blk.chg hg (by simp), h.c0.chg hg (by simp), h.c1.chg hg (by simp), h.net.chg hg (by simp), h.h0.chg hg (by simp) (by simp), h.h1.chg hg (by simp) (by simp), h.m0, h.m1, h.room, h.apart,
    fun a ha q hq => ⟨(h.lt a ha q hq).1, Nat.lt_of_lt_of_le (h.lt a ha q hq).2 hg.size⟩, Nat.le_trans h.base hg.size⟩

/-- the bounds behind a change of the part i -/
theorem parts_lt {L : List (List Nat)} {i : Nat} {a c : List Nat} {B n n' : Nat} (h : ∀ a ∈ L, ∀ q ∈ a, (q ∈ F ∨ B ≤ q) ∧ q < n) (ha : L[i]? = some a) (hb : ∀ q ∈ c, q ∈ a ∨ n ≤ q) (hb' : ∀ q ∈ c, q < n') (hn : n ≤ n') (hB : B ≤ n) : ∀ a ∈ L.set i c, ∀ q ∈ a, (q ∈ F ∨ B ≤ q) ∧ q < n' := by
  intro x hx q hq
  rcases List.mem_or_eq_of_mem_set hx with hx | rfl
  · have := h x hx q hq; exact ⟨this.1, by omega⟩
  · have h2 := hb' q hq
    rcases hb q hq with h1 | h1
    · have := h a (List.mem_of_getElem? ha) q h1; exact ⟨this.1, by omega⟩
    · exact ⟨.inr (by omega), by omega⟩
theorem rowOf_lt {base n size : Nat} {e : TypeId} {v : Value} {xs : List Value} (h : w.ownsRow base e size v n xs) : ∀ q ∈ rowOf v, q < w.heap.size := fun q hq => (h.lt q (by unfold rowOf at hq; simpa using hq)).2

theorem PairAt.upNet (h : PairAt w F b P C0 C1 N v0 v1 vn g0 g1 p x0 x1) {vn' : Value} {net' : List (Pk Msg)} (hN : NetAt w' N 0 net'.length vn' (net'.flatMap packC)) (hl : Lies w vn vn') (hg : Chg (N :: rowOf vn) w w') (hr : net'.length ≤ 4096) :
    PairAt w' F b P C0 C1 N v0 v1 vn' g0 g1 { p with net := net' } x0 x1 := by
  have hb : ∀ q ∈ N :: rowOf vn', q ∈ N :: rowOf vn ∨ w.heap.size ≤ q := fun q hq => by
    rcases List.mem_cons.1 hq with rfl | hq
    · exact .inl (by simp)
    · rcases hl q hq with h1 | h1
      · exact .inl (List.mem_cons_of_mem _ h1)
      · exact .inr h1
  have hb' : ∀ q ∈ N :: rowOf vn', q < w'.heap.size := fun q hq => by
    rcases List.mem_cons.1 hq with rfl | hq
    · exact hN.1.lt
    · exact rowOf_lt hN.2.1 q hq
  exact ⟨h.blk.chg hg (h.off (i := 0) (j := 3) (by decide) rfl rfl P (by simp)), h.c0.chg hg (h.off (i := 3) (j := 1) (by decide) rfl rfl), h.c1.chg hg (h.off (i := 3) (j := 2) (by decide) rfl rfl), hN,
    h.h0.chg hg (h.off (i := 3) (j := 4) (by decide) rfl rfl) (fun q hq hm => h.off (i := 3) (j := 6) (by decide) rfl rfl q hq (by simp [hm])),
    h.h1.chg hg (h.off (i := 3) (j := 5) (by decide) rfl rfl) (fun q hq hm => h.off (i := 3) (j := 6) (by decide) rfl rfl q hq (by simp [hm])),
    h.m0, h.m1, hr, h.apart.set h.lt' 3 _ _ rfl hb, parts_lt h.lt (i := 3) rfl hb hb' hg.size h.base, Nat.le_trans h.base hg.size⟩

theorem PairAt.upC0 (h : PairAt w F b P C0 C1 N v0 v1 vn g0 g1 p x0 x1) {v0' : Value} {c' : Hg.Chan Msg} (hC : ChanAt w' C0 0 v0' c') (hl : Lies w v0 v0') (hl' : ∀ q ∈ rowOf v0', q < w'.heap.size) (hg : Chg (C0 :: rowOf v0) w w') :
    PairAt w' F b P C0 C1 N v0' v1 vn g0 g1 { p with e0 := c' } x0 x1 := by
  have hb : ∀ q ∈ C0 :: rowOf v0', q ∈ C0 :: rowOf v0 ∨ w.heap.size ≤ q := fun q hq => by
    rcases List.mem_cons.1 hq with rfl | hq
    · exact .inl (by simp)
    · rcases hl q hq with h1 | h1
      · exact .inl (List.mem_cons_of_mem _ h1)
      · exact .inr h1
  have hb' : ∀ q ∈ C0 :: rowOf v0', q < w'.heap.size := fun q hq => by
    rcases List.mem_cons.1 hq with rfl | hq
    · exact hC.blk.lt
    · exact hl' q hq
  exact ⟨h.blk.chg hg (h.off (i := 0) (j := 1) (by decide) rfl rfl P (by simp)), hC, h.c1.chg hg (h.off (i := 1) (j := 2) (by decide) rfl rfl), h.net.chg hg (h.off (i := 1) (j := 3) (by decide) rfl rfl),
    h.h0.chg hg (h.off (i := 1) (j := 4) (by decide) rfl rfl) (fun q hq hm => h.off (i := 1) (j := 6) (by decide) rfl rfl q hq (by simp [hm])),
    h.h1.chg hg (h.off (i := 1) (j := 5) (by decide) rfl rfl) (fun q hq hm => h.off (i := 1) (j := 6) (by decide) rfl rfl q hq (by simp [hm])),
    h.m0, h.m1, h.room, h.apart.set h.lt' 1 _ _ rfl hb, parts_lt h.lt (i := 1) rfl hb hb' hg.size h.base, Nat.le_trans h.base hg.size⟩

theorem PairAt.upC1 (h : PairAt w F b P C0 C1 N v0 v1 vn g0 g1 p x0 x1) {v1' : Value} {c' : Hg.Chan Msg} (hC : ChanAt w' C1 0 v1' c') (hl : Lies w v1 v1') (hl' : ∀ q ∈ rowOf v1', q < w'.heap.size) (hg : Chg (C1 :: rowOf v1) w w') :
    PairAt w' F b P C0 C1 N v0 v1' vn g0 g1 { p with e1 := c' } x0 x1 := by
  have hb : ∀ q ∈ C1 :: rowOf v1', q ∈ C1 :: rowOf v1 ∨ w.heap.size ≤ q := fun q hq => by
    rcases List.mem_cons.1 hq with rfl | hq
    · exact .inl (by simp)
    · rcases hl q hq with h1 | h1
      · exact .inl (List.mem_cons_of_mem _ h1)
      · exact .inr h1
  have hb' : ∀ q ∈ C1 :: rowOf v1', q < w'.heap.size := fun q hq => by
    rcases List.mem_cons.1 hq with rfl | hq
    · exact hC.blk.lt
    · exact hl' q hq
  exact ⟨h.blk.chg hg (h.off (i := 0) (j := 2) (by decide) rfl rfl P (by simp)), h.c0.chg hg (h.off (i := 2) (j := 1) (by decide) rfl rfl), hC, h.net.chg hg (h.off (i := 2) (j := 3) (by decide) rfl rfl),
    h.h0.chg hg (h.off (i := 2) (j := 4) (by decide) rfl rfl) (fun q hq hm => h.off (i := 2) (j := 6) (by decide) rfl rfl q hq (by simp [hm])),
    h.h1.chg hg (h.off (i := 2) (j := 5) (by decide) rfl rfl) (fun q hq hm => h.off (i := 2) (j := 6) (by decide) rfl rfl q hq (by simp [hm])),
    h.m0, h.m1, h.room, h.apart.set h.lt' 2 _ _ rfl hb, parts_lt h.lt (i := 2) rfl hb hb' hg.size h.base, Nat.le_trans h.base hg.size⟩

/-- a store of 'bad', which is false still -/
theorem PairAt.setBad (h : PairAt w F b P C0 C1 N v0 v1 vn g0 g1 p x0 x1) : PairAt (w.setCell ⟨P, 5, none⟩ (.bool false)) F b P C0 C1 N v0 v1 vn g0 g1 p x0 x1 := by
  have hg : Chg [P] w (w.setCell ⟨P, 5, none⟩ (.bool false)) := (Chg.refl [P] w).setCell (.inl (by simp)) _
  exact ⟨h.blk.set_ 5 (.bool false), h.c0.chg hg (h.off (i := 0) (j := 1) (by decide) rfl rfl), h.c1.chg hg (h.off (i := 0) (j := 2) (by decide) rfl rfl), h.net.chg hg (h.off (i := 0) (j := 3) (by decide) rfl rfl),
    h.h0.chg hg (h.off (i := 0) (j := 4) (by decide) rfl rfl) (fun q hq hm => h.off (i := 0) (j := 6) (by decide) rfl rfl q hq (by simp [hm])),
    h.h1.chg hg (h.off (i := 0) (j := 5) (by decide) rfl rfl) (fun q hq hm => h.off (i := 0) (j := 6) (by decide) rfl rfl q hq (by simp [hm])),
    h.m0, h.m1, h.room, h.apart, fun a ha q hq => by have := h.lt a ha q hq; simpa using this, by simpa using h.base⟩

theorem mem3 {a b c : List Nat} {q : Nat} (h : q ∈ (a ++ b) ++ c) : q ∈ a ++ c ∨ q ∈ b := by
  simp only [List.mem_append] at h ⊢
  rcases h with (h | h) | h
  · exact .inl (.inl h)
  · exact .inr h
  · exact .inl (.inr h)

/-- a message is heard by node 0 -/
theorem PairAt.upH0 (h : PairAt w F b P C0 C1 N v0 v1 vn g0 g1 p x0 x1) {g0' : Value} {y : HM} (hB : Blk w' P 41 #[ptrV C0, ptrV C1, ptrV N, g0', g1, .bool false]) (hH : w'.ownsRow 0 36 6 g0' (x0.length + 1) ((x0 ++ [y]).flatMap msgC)) (hl : Lies w g0 g0') (hg : Chg (P :: rowOf g0) w w')
    (hy : MsgIn w' y.m y.s1 y.s2 y.s3) (hyb : ∀ q ∈ y.blks, (q ∈ F ∨ b ≤ q) ∧ q < w.heap.size ∧ ∀ a ∈ parts7 P C0 C1 N v0 v1 vn g0 g1 x0 x1, q ∉ a) :
    PairAt w' F b P C0 C1 N v0 v1 vn g0' g1 { p with h0 := p.h0 ++ [y.m] } (x0 ++ [y]) x1 := by
  have hd : deep (x0 ++ [y]) = deep x0 ++ y.blks := by simp [deep]
  have oP : ∀ j b, j ≠ 0 → (parts7 P C0 C1 N v0 v1 vn g0 g1 x0 x1)[j]? = some b → P ∉ b := fun j b hj hb => h.off (i := 0) (j := j) (Ne.symm hj) rfl hb P (by simp)
  have o2 : ∀ j b, j ≠ 0 → j ≠ 4 → (parts7 P C0 C1 N v0 v1 vn g0 g1 x0 x1)[j]? = some b → ∀ q ∈ P :: rowOf g0, q ∉ b := fun j b h1 h2 hb q hq => by
    rcases List.mem_cons.1 hq with rfl | hq
    · exact oP j b h1 hb
    · exact h.off (i := 4) (j := j) (Ne.symm h2) rfl hb q hq
  have hlt0 : ∀ q ∈ rowOf g0', q < w'.heap.size := rowOf_lt hH
  have a1 := h.apart.set h.lt' 4 _ (rowOf g0') rfl hl
  have l1 := parts_lt h.lt (i := 4) (c := rowOf g0') rfl hl hlt0 hg.size h.base
  refine ⟨hB, h.c0.chg hg (o2 1 _ (by decide) (by decide) rfl), h.c1.chg hg (o2 2 _ (by decide) (by decide) rfl), h.net.chg hg (o2 3 _ (by decide) (by decide) rfl), ⟨?_, ?_⟩,
    h.h1.chg hg (o2 5 _ (by decide) (by decide) rfl) (fun q hq hm => o2 6 _ (by decide) (by decide) rfl q hq (by simp [hm])), ?_, h.m1, h.room, ?_, ?_, Nat.le_trans h.base hg.size⟩
  · rw [List.length_append]; exact hH
  · intro x hx
    rcases List.mem_append.1 hx with hx | hx
    · refine (h.h0.ins x hx).chg hg fun k hk => ?_
      have := o2 6 _ (by decide) (by decide) rfl k hk
      have h2 : k ∉ x.blks := fun hm => this (List.mem_append_left _ (List.mem_flatMap.2 ⟨x, hx, hm⟩))
      simpa [HM.blks] using h2
    · simp at hx; subst hx; exact hy
  · rw [List.map_append, h.m0]; rfl
  · unfold parts7
    rw [hd]
    intro i j a c hij ha hb q hq hm
    have key : ∀ j b, j ≠ 6 → (parts7 P C0 C1 N v0 v1 vn g0' g1 x0 x1)[j]? = some b → ∀ q, q ∈ y.blks → q ∉ b := by
      intro j b hj hb q hq hm
      obtain ⟨_, q2, q3⟩ := hyb q hq
      match j, hj, hb with
      | 0, _, hb => exact q3 b (by have : b = [P] := by simpa [eq_comm] using hb
                                   simp [this]) hm
      | 1, _, hb => exact q3 b (by have : b = C0 :: rowOf v0 := by simpa [eq_comm] using hb
                                   simp [this]) hm
      | 2, _, hb => exact q3 b (by have : b = C1 :: rowOf v1 := by simpa [eq_comm] using hb
                                   simp [this]) hm
      | 3, _, hb => exact q3 b (by have : b = N :: rowOf vn := by simpa [eq_comm] using hb
                                   simp [this]) hm
      | 4, _, hb =>
        have : b = rowOf g0' := by simpa [eq_comm] using hb
        subst this
        rcases hl q hm with h1 | h1
        · exact q3 (rowOf g0) (by simp) h1
        · omega
      | 5, _, hb => exact q3 b (by have : b = rowOf g1 := by simpa [eq_comm] using hb
                                   simp [this]) hm
      | n + 7, _, hb => simp at hb
    have to : ∀ (i : Nat) a, i ≠ 6 → (parts7 P C0 C1 N v0 v1 vn g0' g1 (x0 ++ [y]) x1)[i]? = some a → (parts7 P C0 C1 N v0 v1 vn g0' g1 x0 x1)[i]? = some a := by
      intro i a hi ha
      match i, hi, ha with
      | 0, _, ha | 1, _, ha | 2, _, ha | 3, _, ha | 4, _, ha | 5, _, ha => exact ha
      | n + 7, _, ha => simp at ha
    have ha' : (parts7 P C0 C1 N v0 v1 vn g0' g1 (x0 ++ [y]) x1)[i]? = some a := by rw [parts7, hd]; exact ha
    have hb' : (parts7 P C0 C1 N v0 v1 vn g0' g1 (x0 ++ [y]) x1)[j]? = some c := by rw [parts7, hd]; exact hb
    by_cases e1 : i = 6
    · subst e1
      have : a = (deep x0 ++ y.blks) ++ deep x1 := by simpa [eq_comm] using ha
      subst this
      have hb2 := to j c (Ne.symm hij) hb'
      have hq' : q ∈ deep x0 ++ deep x1 ∨ q ∈ y.blks := mem3 hq
      rcases hq' with hq' | hq'
      · exact a1 6 j _ c hij rfl hb2 q hq' hm
      · exact key j c (Ne.symm hij) hb2 q hq' hm
    · have ha2 := to i a e1 ha'
      by_cases e2 : j = 6
      · subst e2
        have : c = (deep x0 ++ y.blks) ++ deep x1 := by simpa [eq_comm] using hb
        subst this
        have hm' : q ∈ deep x0 ++ deep x1 ∨ q ∈ y.blks := mem3 hm
        rcases hm' with hm' | hm'
        · exact a1 i 6 a _ hij ha2 rfl q hq hm'
        · exact key i a e1 ha2 q hm' hq
      · exact a1 i j a c hij ha2 (to j c e2 hb') q hq hm
  · unfold parts7
    rw [hd]
    intro a ha q hq
    simp only [List.mem_cons, List.not_mem_nil, or_false] at ha
    have := hg.size
    have L := fun a (ha : a ∈ (parts7 P C0 C1 N v0 v1 vn g0 g1 x0 x1).set 4 (rowOf g0')) => l1 a ha q
    rcases ha with rfl | rfl | rfl | rfl | rfl | rfl | rfl
    · exact L _ (by simp) hq
    · exact L _ (by simp) hq
    · exact L _ (by simp) hq
    · exact L _ (by simp) hq
    · exact L _ (by simp) hq
    · exact L _ (by simp) hq
    · have hq' : q ∈ deep x0 ++ deep x1 ∨ q ∈ y.blks := mem3 hq
      rcases hq' with hq' | hq'
      · exact L (deep x0 ++ deep x1) (by simp) hq'
      · have := hyb q hq'; exact ⟨this.1, by omega⟩
theorem mem3' {a b c : List Nat} {q : Nat} (h : q ∈ a ++ (b ++ c)) : q ∈ a ++ b ∨ q ∈ c := by
  simp only [List.mem_append] at h ⊢
  rcases h with h | h | h
  · exact .inl (.inl h)
  · exact .inl (.inr h)
  · exact .inr h

/-- a message is heard by node 1 -/
theorem PairAt.upH1 (h : PairAt w F b P C0 C1 N v0 v1 vn g0 g1 p x0 x1) {g1' : Value} {y : HM} (hB : Blk w' P 41 #[ptrV C0, ptrV C1, ptrV N, g0, g1', .bool false]) (hH : w'.ownsRow 0 36 6 g1' (x1.length + 1) ((x1 ++ [y]).flatMap msgC)) (hl : Lies w g1 g1') (hg : Chg (P :: rowOf g1) w w')
    (hy : MsgIn w' y.m y.s1 y.s2 y.s3) (hyb : ∀ q ∈ y.blks, (q ∈ F ∨ b ≤ q) ∧ q < w.heap.size ∧ ∀ a ∈ parts7 P C0 C1 N v0 v1 vn g0 g1 x0 x1, q ∉ a) :
    PairAt w' F b P C0 C1 N v0 v1 vn g0 g1' { p with h1 := p.h1 ++ [y.m] } x0 (x1 ++ [y]) := by
  have hd : deep (x1 ++ [y]) = deep x1 ++ y.blks := by simp [deep]
  have oP : ∀ j b, j ≠ 0 → (parts7 P C0 C1 N v0 v1 vn g0 g1 x0 x1)[j]? = some b → P ∉ b := fun j b hj hb => h.off (i := 0) (j := j) (Ne.symm hj) rfl hb P (by simp)
  have o2 : ∀ j b, j ≠ 0 → j ≠ 5 → (parts7 P C0 C1 N v0 v1 vn g0 g1 x0 x1)[j]? = some b → ∀ q ∈ P :: rowOf g1, q ∉ b := fun j b h1 h2 hb q hq => by
    rcases List.mem_cons.1 hq with rfl | hq
    · exact oP j b h1 hb
    · exact h.off (i := 5) (j := j) (Ne.symm h2) rfl hb q hq
  have hlt0 : ∀ q ∈ rowOf g1', q < w'.heap.size := rowOf_lt hH
  have a1 := h.apart.set h.lt' 5 _ (rowOf g1') rfl hl
  have l1 := parts_lt h.lt (i := 5) (c := rowOf g1') rfl hl hlt0 hg.size h.base
  refine ⟨hB, h.c0.chg hg (o2 1 _ (by decide) (by decide) rfl), h.c1.chg hg (o2 2 _ (by decide) (by decide) rfl), h.net.chg hg (o2 3 _ (by decide) (by decide) rfl),
    h.h0.chg hg (o2 4 _ (by decide) (by decide) rfl) (fun q hq hm => o2 6 _ (by decide) (by decide) rfl q hq (by simp [hm])), ⟨?_, ?_⟩, h.m0, ?_, h.room, ?_, ?_, Nat.le_trans h.base hg.size⟩
  · rw [List.length_append]; exact hH
  · intro x hx
    rcases List.mem_append.1 hx with hx | hx
    · refine (h.h1.ins x hx).chg hg fun k hk => ?_
      have := o2 6 _ (by decide) (by decide) rfl k hk
      have h2 : k ∉ x.blks := fun hm => this (List.mem_append_right _ (List.mem_flatMap.2 ⟨x, hx, hm⟩))
      simpa [HM.blks] using h2
    · simp at hx; subst hx; exact hy
  · rw [List.map_append, h.m1]; rfl
  · unfold parts7
    rw [hd]
    intro i j a c hij ha hb q hq hm
    have key : ∀ j b, j ≠ 6 → (parts7 P C0 C1 N v0 v1 vn g0 g1' x0 x1)[j]? = some b → ∀ q, q ∈ y.blks → q ∉ b := by
      intro j b hj hb q hq hm
      obtain ⟨_, q2, q3⟩ := hyb q hq
      match j, hj, hb with
      | 0, _, hb => exact q3 b (by have : b = [P] := by simpa [eq_comm] using hb
                                   simp [this]) hm
      | 1, _, hb => exact q3 b (by have : b = C0 :: rowOf v0 := by simpa [eq_comm] using hb
                                   simp [this]) hm
      | 2, _, hb => exact q3 b (by have : b = C1 :: rowOf v1 := by simpa [eq_comm] using hb
                                   simp [this]) hm
      | 3, _, hb => exact q3 b (by have : b = N :: rowOf vn := by simpa [eq_comm] using hb
                                   simp [this]) hm
      | 4, _, hb => exact q3 b (by have : b = rowOf g0 := by simpa [eq_comm] using hb
                                   simp [this]) hm
      | 5, _, hb =>
        have : b = rowOf g1' := by simpa [eq_comm] using hb
        subst this
        rcases hl q hm with h1 | h1
        · exact q3 (rowOf g1) (by simp) h1
        · omega
      | n + 7, _, hb => simp at hb
    have to : ∀ (i : Nat) a, i ≠ 6 → (parts7 P C0 C1 N v0 v1 vn g0 g1' x0 (x1 ++ [y]))[i]? = some a → (parts7 P C0 C1 N v0 v1 vn g0 g1' x0 x1)[i]? = some a := by
      intro i a hi ha
      match i, hi, ha with
      | 0, _, ha | 1, _, ha | 2, _, ha | 3, _, ha | 4, _, ha | 5, _, ha => exact ha
      | n + 7, _, ha => simp at ha
    have ha' : (parts7 P C0 C1 N v0 v1 vn g0 g1' x0 (x1 ++ [y]))[i]? = some a := by rw [parts7, hd]; exact ha
    have hb' : (parts7 P C0 C1 N v0 v1 vn g0 g1' x0 (x1 ++ [y]))[j]? = some c := by rw [parts7, hd]; exact hb
    by_cases e1 : i = 6
    · subst e1
      have : a = deep x0 ++ (deep x1 ++ y.blks) := by simpa [eq_comm] using ha
      subst this
      have hb2 := to j c (Ne.symm hij) hb'
      have hq' : q ∈ deep x0 ++ deep x1 ∨ q ∈ y.blks := mem3' hq
      rcases hq' with hq' | hq'
      · exact a1 6 j _ c hij rfl hb2 q hq' hm
      · exact key j c (Ne.symm hij) hb2 q hq' hm
    · have ha2 := to i a e1 ha'
      by_cases e2 : j = 6
      · subst e2
        have : c = deep x0 ++ (deep x1 ++ y.blks) := by simpa [eq_comm] using hb
        subst this
        have hm' : q ∈ deep x0 ++ deep x1 ∨ q ∈ y.blks := mem3' hm
        rcases hm' with hm' | hm'
        · exact a1 i 6 a _ hij ha2 rfl q hq hm'
        · exact key i a e1 ha2 q hm' hq
      · exact a1 i j a c hij ha2 (to j c e2 hb') q hq hm
  · unfold parts7
    rw [hd]
    intro a ha q hq
    simp only [List.mem_cons, List.not_mem_nil, or_false] at ha
    have := hg.size
    have L := fun a (ha : a ∈ (parts7 P C0 C1 N v0 v1 vn g0 g1 x0 x1).set 5 (rowOf g1')) => l1 a ha q
    rcases ha with rfl | rfl | rfl | rfl | rfl | rfl | rfl
    · exact L _ (by simp) hq
    · exact L _ (by simp) hq
    · exact L _ (by simp) hq
    · exact L _ (by simp) hq
    · exact L _ (by simp) hq
    · exact L _ (by simp) hq
    · have hq' : q ∈ deep x0 ++ deep x1 ∨ q ∈ y.blks := mem3' hq
      rcases hq' with hq' | hq'
      · exact L (deep x0 ++ deep x1) (by simp) hq'
      · have := hyb q hq'; exact ⟨this.1, by omega⟩
end
end Go.Proofs.Yteajdkneiejlaaa

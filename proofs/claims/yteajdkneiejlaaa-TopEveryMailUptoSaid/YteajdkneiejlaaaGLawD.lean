/- The state of TopEveryMail: the pair, what was said, and that a step of the pair leaves the rest as it was. -/
import Derived.Test.YteajdkneiejlaaaGMet
import Derived.Test.YteajdkneiejlaaaGSays
import Derived.Test.YteajdkneiejlaaaGSame
namespace Go.Proofs.Yteajdkneiejlaaa
open Go.RowKit Hg

/-- the pair, and the two slices of what was said, whose array is block D; all of it from B on -/
structure LawAt (w : World) (B P C0 D : Nat) (p : Pair Msg) (g0 g1 : Value) (y0 y1 : List HM) : Prop where
  pair : ∃ F, PairIn w F w.heap.size P C0 p ∧ ∀ q ∈ F, B ≤ q ∧ q < w.heap.size ∧ q ≠ D ∧ q ∉ rowOf g0 ∧ q ∉ rowOf g1
  blk : Blk w D 27 #[g0, g1]
  s0 : w.ownsRow 0 36 6 g0 y0.length (y0.flatMap msgC)
  s1 : w.ownsRow 0 36 6 g1 y1.length (y1.flatMap msgC)
  rows : (∀ q ∈ rowOf g0, B ≤ q ∧ q ≠ D ∧ q ∉ rowOf g1) ∧ ∀ q ∈ rowOf g1, B ≤ q ∧ q ≠ D
  d : B ≤ D

/-- a step of the pair -/
theorem LawAt.step {w w' : World} {B P C0 D : Nat} {p p' : Pair Msg} {g0 g1 : Value} {y0 y1 : List HM} (h : LawAt w B P C0 D p g0 g1 y0 y1) {F : List Nat} (hF : ∀ q ∈ F, B ≤ q ∧ q < w.heap.size ∧ q ≠ D ∧ q ∉ rowOf g0 ∧ q ∉ rowOf g1)
    (hp : PairIn w' F w.heap.size P C0 p') (hc : ChgF F w.heap.size w w') : LawAt w' B P C0 D p' g0 g1 y0 y1 ∧ ChgF [] B w w' := by
  have hcc := hc.chg
  have hD := h.blk.lt
  have hs := hc.size
  have hr0 := rowOf_lt h.s0
  have hr1 := rowOf_lt h.s1
  have hd := h.d
  refine ⟨⟨⟨_, hp.reframe, fun q hq => ?_⟩, h.blk.chg hcc (fun hm => (hF D hm).2.2.1 rfl), own_chg h.s0 hcc (fun q hq hm => (hF q hm).2.2.2.1 (by rw [rowOf, hq]; simp)), own_chg h.s1 hcc (fun q hq hm => (hF q hm).2.2.2.2 (by rw [rowOf, hq]; simp)), h.rows, h.d⟩, ?_⟩
  · rcases List.mem_append.1 hq with h1 | h1
    · have := hF q h1; exact ⟨this.1, by omega, this.2.2⟩
    · rw [List.mem_range'_1] at h1
      refine ⟨by omega, by omega, by omega, fun hm => ?_, fun hm => ?_⟩
      · have := hr0 q hm; omega
      · have := hr1 q hm; omega
  · exact ⟨hc.os, hc.tape, hc.output, hc.size, fun k hk _ => hc.block k (by omega) (fun hm => by have := (hF k hm).1; omega)⟩

/-- node 0 says -/
theorem LawAt.says0 {w w' : World} {B P C0 D : Nat} {p p' : Pair Msg} {g0 g1 g' : Value} {y0 y1 : List HM} {y : HM} (h : LawAt w B P C0 D p g0 g1 y0 y1) {F F' : List Nat} (hF : ∀ q ∈ F, B ≤ q ∧ q < w.heap.size ∧ q ≠ D ∧ q ∉ rowOf g0 ∧ q ∉ rowOf g1)
    (hp : PairIn w' F' w'.heap.size P C0 p') (hF' : ∀ q ∈ F', (q ∈ F ∨ w.heap.size ≤ q) ∧ q < w'.heap.size ∧ q ∉ rowOf g') (ho : w'.ownsRow 0 36 6 g' (y0.length + 1) ((y0 ++ [y]).flatMap msgC)) (hl : Lies w g0 g') (hc : ChgF (rowOf g0 ++ F) w.heap.size w w') :
    LawAt (w'.setCell ⟨D, 0, none⟩ g') B P C0 D p' g' g1 (y0 ++ [y]) y1 ∧ ChgF [] B w (w'.setCell ⟨D, 0, none⟩ g') := by
  have hcc := hc.chg
  have hD := h.blk.lt
  have hs := hc.size
  have hr0 := rowOf_lt h.s0
  have hr1 := rowOf_lt h.s1
  have hd := h.d
  have hDn : D ∉ rowOf g0 ++ F := fun hm => by
    rcases List.mem_append.1 hm with h1 | h1
    · exact (h.rows.1 D h1).2.1 rfl
    · exact (hF D h1).2.2.1 rfl
  have hB' := (h.blk.chg hcc hDn).set_ 0 g'
  have hDg : D ∉ rowOf g' := fun hm => by
    rcases hl D hm with h1 | h1
    · exact (h.rows.1 D h1).2.1 rfl
    · omega
  have hgD : Chg [D] w' (w'.setCell ⟨D, 0, none⟩ g') := (Chg.refl [D] w').setCell (.inl (by simp)) _
  obtain ⟨C1, N, v0, v1, vn, a0, a1, x0, x1, hP⟩ := hp
  have hDF : ∀ q ∈ F', q ≠ D := fun q hq e => by
    rcases (hF' q hq).1 with h1 | h1
    · exact (hF q h1).2.2.1 e
    · omega
  refine ⟨⟨⟨F', ⟨C1, N, v0, v1, vn, a0, a1, x0, x1, ?_⟩, fun q hq => ?_⟩, hB', ?_, ?_, ⟨fun q hq => ?_, h.rows.2⟩, h.d⟩, ?_⟩
  · have := hP.far hgD (fun q hq a ha hm => by
      have e : q = D := by simpa using hq
      have e1 := (hP.lt a ha q hm).1
      rcases e1 with h1 | h1
      · exact hDF q h1 e
      · have := (hP.lt a ha q hm).2; omega)
    simpa using this
  · have e1 := hF' q hq
    refine ⟨?_, by simpa using e1.2.1, hDF q hq, e1.2.2, ?_⟩
    · rcases e1.1 with h1 | h1
      · exact (hF q h1).1
      · omega
    · rcases e1.1 with h1 | h1
      · exact (hF q h1).2.2.2.2
      · intro hm; have := hr1 q hm; omega
  · rw [List.length_append]
    exact own_chg ho hgD (fun q hq hm => by
      have e : q = D := by simpa using hm
      exact hDg (by rw [rowOf, ← e, hq]; simp))
  · refine own_chg (own_chg h.s1 hcc (fun q hq hm => ?_)) hgD (fun q hq hm => ?_)
    · have hq1 : q ∈ rowOf g1 := by rw [rowOf, hq]; simp
      rcases List.mem_append.1 hm with h1 | h1
      · exact (h.rows.1 q h1).2.2 hq1
      · exact (hF q h1).2.2.2.2 hq1
    · have e : q = D := by simpa using hm
      exact (h.rows.2 q (by rw [rowOf, hq]; simp)).2 e
  · rcases hl q hq with h1 | h1
    · exact h.rows.1 q h1
    · exact ⟨by omega, by omega, fun hm => by have := hr1 q hm; omega⟩
  · refine ⟨hgD.os.trans hc.os, hgD.tape.trans hc.tape, hgD.output.trans hc.output, Nat.le_trans hc.size hgD.size, fun k hk _ => ?_⟩
    have hkD : k ≠ D := by omega
    rw [hgD.block k (by omega) (by simpa using hkD)]
    refine hc.block k (by omega) (fun hm => ?_)
    rcases List.mem_append.1 hm with h1 | h1
    · have := (h.rows.1 k h1).1; omega
    · have := (hF k h1).1; omega

/-- node 1 says -/
theorem LawAt.says1 {w w' : World} {B P C0 D : Nat} {p p' : Pair Msg} {g0 g1 g' : Value} {y0 y1 : List HM} {y : HM} (h : LawAt w B P C0 D p g0 g1 y0 y1) {F F' : List Nat} (hF : ∀ q ∈ F, B ≤ q ∧ q < w.heap.size ∧ q ≠ D ∧ q ∉ rowOf g0 ∧ q ∉ rowOf g1)
    (hp : PairIn w' F' w'.heap.size P C0 p') (hF' : ∀ q ∈ F', (q ∈ F ∨ w.heap.size ≤ q) ∧ q < w'.heap.size ∧ q ∉ rowOf g') (ho : w'.ownsRow 0 36 6 g' (y1.length + 1) ((y1 ++ [y]).flatMap msgC)) (hl : Lies w g1 g') (hc : ChgF (rowOf g1 ++ F) w.heap.size w w') :
    LawAt (w'.setCell ⟨D, 1, none⟩ g') B P C0 D p' g0 g' y0 (y1 ++ [y]) ∧ ChgF [] B w (w'.setCell ⟨D, 1, none⟩ g') := by
  have hcc := hc.chg
  have hD := h.blk.lt
  have hs := hc.size
  have hr0 := rowOf_lt h.s0
  have hr1 := rowOf_lt h.s1
  have hd := h.d
  have hDn : D ∉ rowOf g1 ++ F := fun hm => by
    rcases List.mem_append.1 hm with h1 | h1
    · exact (h.rows.2 D h1).2 rfl
    · exact (hF D h1).2.2.1 rfl
  have hB' := (h.blk.chg hcc hDn).set_ 1 g'
  have hDg : D ∉ rowOf g' := fun hm => by
    rcases hl D hm with h1 | h1
    · exact (h.rows.2 D h1).2 rfl
    · omega
  have hgD : Chg [D] w' (w'.setCell ⟨D, 1, none⟩ g') := (Chg.refl [D] w').setCell (.inl (by simp)) _
  obtain ⟨C1, N, v0, v1, vn, a0, a1, x0, x1, hP⟩ := hp
  have hDF : ∀ q ∈ F', q ≠ D := fun q hq e => by
    rcases (hF' q hq).1 with h1 | h1
    · exact (hF q h1).2.2.1 e
    · omega
  refine ⟨⟨⟨F', ⟨C1, N, v0, v1, vn, a0, a1, x0, x1, ?_⟩, fun q hq => ?_⟩, hB', ?_, ?_, ⟨fun q hq => ⟨(h.rows.1 q hq).1, (h.rows.1 q hq).2.1, fun hm => ?_⟩, fun q hq => ?_⟩, h.d⟩, ?_⟩
  · have := hP.far hgD (fun q hq a ha hm => by
      have e : q = D := by simpa using hq
      have e1 := (hP.lt a ha q hm).1
      rcases e1 with h1 | h1
      · exact hDF q h1 e
      · have := (hP.lt a ha q hm).2; omega)
    simpa using this
  · have e1 := hF' q hq
    refine ⟨?_, by simpa using e1.2.1, hDF q hq, ?_, e1.2.2⟩
    · rcases e1.1 with h1 | h1
      · exact (hF q h1).1
      · omega
    · rcases e1.1 with h1 | h1
      · exact (hF q h1).2.2.2.1
      · intro hm; have := hr0 q hm; omega
  · refine own_chg (own_chg h.s0 hcc (fun q hq hm => ?_)) hgD (fun q hq hm => ?_)
    · have hq1 : q ∈ rowOf g0 := by rw [rowOf, hq]; simp
      rcases List.mem_append.1 hm with h1 | h1
      · exact (h.rows.1 q hq1).2.2 h1
      · exact (hF q h1).2.2.2.1 hq1
    · have e : q = D := by simpa using hm
      exact (h.rows.1 q (by rw [rowOf, hq]; simp)).2.1 e
  · rw [List.length_append]
    exact own_chg ho hgD (fun q hq hm => by
      have e : q = D := by simpa using hm
      exact hDg (by rw [rowOf, ← e, hq]; simp))
  · rcases hl q hm with h1 | h1
    · exact (h.rows.1 q hq).2.2 h1
    · have := hr0 q hq; omega
  · rcases hl q hq with h1 | h1
    · exact h.rows.2 q h1
    · exact ⟨by omega, by omega⟩
  · refine ⟨hgD.os.trans hc.os, hgD.tape.trans hc.tape, hgD.output.trans hc.output, Nat.le_trans hc.size hgD.size, fun k hk _ => ?_⟩
    have hkD : k ≠ D := by omega
    rw [hgD.block k (by omega) (by simpa using hkD)]
    refine hc.block k (by omega) (fun hm => ?_)
    rcases List.mem_append.1 hm with h1 | h1
    · have := (h.rows.2 k h1).1; omega
    · have := (hF k h1).1; omega
end Go.Proofs.Yteajdkneiejlaaa

/- What the steps of TopEveryMail's loop leave of its state. -/
namespace Go.Proofs.Yteajdkneiejlaaa
open Go.RowKit Hg

/-- what stands at the heads of the loops over what is said and what happens -/
structure LawI (W : World) (P C0 D : Nat) (xa xb : List HM) (ni nk : Nat) (p : Pair Msg) (g0 g1 : Value) (y0 y1 : List HM) (wr : World) : Prop where
  at_ : LawAt wr W.heap.size P C0 D p g0 g1 y0 y1
  inv : TInv p (y0.map HM.m) (y1.map HM.m)
  i : ni ≤ xa.length
  k : nk ≤ xb.length
  la : xa.length ≤ 1048576
  lb : xb.length ≤ 1048576
  l0 : y0.length ≤ ni
  l1 : y1.length ≤ nk
  m0 : ∀ y ∈ y0, y ∈ xa
  m1 : ∀ y ∈ y1, y ∈ xb
  chg : ChgF [] W.heap.size W wr

section
variable {W wr : World} {P C0 D : Nat} {xa xb : List HM} {ni nk : Nat} {p : Pair Msg} {g0 g1 : Value} {y0 y1 : List HM}

theorem TInv.say0 {p : Pair Msg} {s0 s1 : List Msg} (t : TInv p s0 s1) (m : Msg) (h : chkMsg m = true ∧ (eMsg m).length ≤ 65472 ∧ p.e0.wait.length < 1024) (hl : s0.length + 1 ≤ 2097152) : TInv (Go.Proofs.Yteajdkneiejlaaa.say0 p m) (s0 ++ [m]) s1 := by
  refine ⟨t.inv.say0 m, fun x hx => ?_, t.g1, ?_, t.w1, by simpa using hl, t.l1⟩
  · rcases List.mem_append.1 hx with hx | hx
    · exact t.g0 x hx
    · simp at hx; subst hx; exact ⟨h.1, h.2.1⟩
  · show (p.e0.wait ++ [m]).length ≤ 1024
    have := h.2.2; simp; omega
theorem TInv.say1 {p : Pair Msg} {s0 s1 : List Msg} (t : TInv p s0 s1) (m : Msg) (h : chkMsg m = true ∧ (eMsg m).length ≤ 65472 ∧ p.e1.wait.length < 1024) (hl : s1.length + 1 ≤ 2097152) : TInv (Go.Proofs.Yteajdkneiejlaaa.say1 p m) s0 (s1 ++ [m]) := by
  refine ⟨t.inv.say1 m, t.g0, fun x hx => ?_, t.w0, ?_, t.l0, by simpa using hl⟩
  · rcases List.mem_append.1 hx with hx | hx
    · exact t.g1 x hx
    · simp at hx; subst hx; exact ⟨h.1, h.2.1⟩
  · show (p.e1.wait ++ [m]).length ≤ 1024
    have := h.2.2; simp; omega

/-- a store of what stands there -/
theorem LawAt.same0 {w : World} {B : Nat} (h : LawAt w B P C0 D p g0 g1 y0 y1) : LawAt (w.setCell ⟨D, 0, none⟩ g0) B P C0 D p g0 g1 y0 y1 ∧ ChgF [] B w (w.setCell ⟨D, 0, none⟩ g0) := by
  have hg : Chg [D] w (w.setCell ⟨D, 0, none⟩ g0) := (Chg.refl [D] w).setCell (.inl (by simp)) _
  obtain ⟨F, ⟨C1, N, v0, v1, vn, a0, a1, x0, x1, hP⟩, hF⟩ := h.pair
  have hd := h.d
  refine ⟨⟨⟨F, ⟨C1, N, v0, v1, vn, a0, a1, x0, x1, ?_⟩, fun q hq => by have := hF q hq; simpa using this⟩, h.blk.set_ 0 g0, own_chg h.s0 hg (fun q hq hm => ?_), own_chg h.s1 hg (fun q hq hm => ?_), h.rows, h.d⟩, ChgF.of hg (by have := h.blk.lt; omega) (fun q hq => (by simpa using hq : q = D) ▸ Or.inr h.d)⟩
  · have := hP.far hg (fun q hq a ha hm => by
      have e : q = D := by simpa using hq
      rcases (hP.lt a ha q hm).1 with h1 | h1
      · exact (hF q h1).2.2.1 e
      · have := (hP.lt a ha q hm).2; omega)
    simpa using this
  · have e : q = D := by simpa using hm
    exact (h.rows.1 q (by rw [rowOf, hq]; simp)).2.1 e
  · have e : q = D := by simpa using hm
    exact (h.rows.2 q (by rw [rowOf, hq]; simp)).2 e
theorem LawAt.same1 {w : World} {B : Nat} (h : LawAt w B P C0 D p g0 g1 y0 y1) : LawAt (w.setCell ⟨D, 1, none⟩ g1) B P C0 D p g0 g1 y0 y1 ∧ ChgF [] B w (w.setCell ⟨D, 1, none⟩ g1) := by
  have hg : Chg [D] w (w.setCell ⟨D, 1, none⟩ g1) := (Chg.refl [D] w).setCell (.inl (by simp)) _
  obtain ⟨F, ⟨C1, N, v0, v1, vn, a0, a1, x0, x1, hP⟩, hF⟩ := h.pair
  have hd := h.d
  refine ⟨⟨⟨F, ⟨C1, N, v0, v1, vn, a0, a1, x0, x1, ?_⟩, fun q hq => by have := hF q hq; simpa using this⟩, h.blk.set_ 1 g1, own_chg h.s0 hg (fun q hq hm => ?_), own_chg h.s1 hg (fun q hq hm => ?_), h.rows, h.d⟩, ChgF.of hg (by have := h.blk.lt; omega) (fun q hq => (by simpa using hq : q = D) ▸ Or.inr h.d)⟩
  · have := hP.far hg (fun q hq a ha hm => by
      have e : q = D := by simpa using hq
      rcases (hP.lt a ha q hm).1 with h1 | h1
      · exact (hF q h1).2.2.1 e
      · have := (hP.lt a ha q hm).2; omega)
    simpa using this
  · have e : q = D := by simpa using hm
    exact (h.rows.1 q (by rw [rowOf, hq]; simp)).2.1 e
  · have e : q = D := by simpa using hm
    exact (h.rows.2 q (by rw [rowOf, hq]; simp)).2 e

/-- what node 0's saying leaves, the array's cell still to be stored -/
def Said0 (W : World) (P C0 D : Nat) (xa xb : List HM) (ni nk : Nat) (g0 g1 : Value) (y1 : List HM) (e : Ending) (w' : World) : Prop :=
  ∃ A n c p' y0', e = .returned (.slice A n c) ∧ Blk w' D 27 #[g0, g1] ∧ LawI W P C0 D xa xb (ni + 1) nk p' (.slice A n c) g1 y0' y1 (w'.setCell ⟨D, 0, none⟩ (.slice A n c))
def Said1 (W : World) (P C0 D : Nat) (xa xb : List HM) (ni nk : Nat) (g0 g1 : Value) (y0 : List HM) (e : Ending) (w' : World) : Prop :=
  ∃ A n c p' y1', e = .returned (.slice A n c) ∧ Blk w' D 27 #[g0, g1] ∧ LawI W P C0 D xa xb ni (nk + 1) p' g0 (.slice A n c) y0 y1' (w'.setCell ⟨D, 1, none⟩ (.slice A n c))

theorem law_says0 (h : LawI W P C0 D xa xb ni nk p g0 g1 y0 y1 wr) {y : HM} (hy : xa[ni]? = some y) (hin : MsgIn wr y.m y.s1 y.s2 y.s3) :
    Calls Try.prog 6 #[ptrV P, .int .i64 0, msgV y.m y.s1 y.s2 y.s3, g0] wr (Said0 W P C0 D xa xb ni nk g0 g1 y1) := by
  have hni := (List.getElem?_eq_some_iff.1 hy).1
  obtain ⟨F, hP, hF⟩ := h.at_.pair
  have hl := h.l0; have hla := h.la; have hi := h.i
  have hb0 := h.at_.blk.lt
  have unch : ∀ e w', (e = .returned g0 ∧ PairIn w' F wr.heap.size P C0 p ∧ ChgF F wr.heap.size wr w') → Said0 W P C0 D xa xb ni nk g0 g1 y1 e w' := by
    rintro e w' ⟨rfl, hp, hc⟩
    obtain ⟨h1, h2⟩ := h.at_.step hF hp hc
    obtain ⟨h3, h4⟩ := h1.same0
    obtain ⟨A, c, hg⟩ := own_slice' h1.s0
    refine ⟨A, y0.length, c, p, y0, by rw [hg], h1.blk, ?_⟩
    rw [← hg]
    exact ⟨h3, h.inv, hni, h.k, h.la, h.lb, by omega, h.l1, h.m0, h.m1, (h.chg.trans h2).trans h4⟩
  cases hck : chkMsg y.m with
  | false =>
    exact (says0_bad wr F wr.heap.size P C0 p g0 y.m y.s1 y.s2 y.s3 hP hin hck).mono unch
  | true =>
    refine (says0_any wr F wr.heap.size P C0 p g0 y0 y.m y.s1 y.s2 y.s3 hP hin hck h.inv.w0 h.at_.s0 (by omega) (fun q hq => ⟨fun hm => (hF q hm).2.2.2.1 hq, rowOf_lt h.at_.s0 q hq⟩) (fun q hq => (hF q hq).2.1)).mono ?_
    rintro e w' (hu | ⟨hok, F', g', rfl, hp, hF', ho, hlies, hc⟩)
    · exact unch e w' hu
    · obtain ⟨h1, h2⟩ := h.at_.says0 (y := y) hF hp hF' ho hlies hc
      obtain ⟨A, c, rfl⟩ := own_slice' ho
      refine ⟨A, y0.length + 1, c, say0 p y.m, y0 ++ [y], rfl, h.at_.blk.chg hc.chg (fun hm => ?_), ⟨h1, ?_, hni, h.k, h.la, h.lb, by simp; omega, h.l1, fun z hz => ?_, h.m1, h.chg.trans h2⟩⟩
      · rcases List.mem_append.1 hm with hm | hm
        · exact (h.at_.rows.1 D hm).2.1 rfl
        · exact (hF D hm).2.2.1 rfl
      · rw [List.map_append]
        exact h.inv.say0 y.m hok (by simp; omega)
      · rcases List.mem_append.1 hz with hz | hz
        · exact h.m0 z hz
        · simp at hz; subst hz; exact List.mem_of_getElem? hy
theorem law_says1 (h : LawI W P C0 D xa xb ni nk p g0 g1 y0 y1 wr) {y : HM} (hy : xb[nk]? = some y) (hin : MsgIn wr y.m y.s1 y.s2 y.s3) :
    Calls Try.prog 6 #[ptrV P, .int .i64 1, msgV y.m y.s1 y.s2 y.s3, g1] wr (Said1 W P C0 D xa xb ni nk g0 g1 y0) := by
  have hni := (List.getElem?_eq_some_iff.1 hy).1
  obtain ⟨F, hP, hF⟩ := h.at_.pair
  have hl := h.l1; have hla := h.lb; have hi := h.k
  have hb0 := h.at_.blk.lt
  have unch : ∀ e w', (e = .returned g1 ∧ PairIn w' F wr.heap.size P C0 p ∧ ChgF F wr.heap.size wr w') → Said1 W P C0 D xa xb ni nk g0 g1 y0 e w' := by
    rintro e w' ⟨rfl, hp, hc⟩
    obtain ⟨h1, h2⟩ := h.at_.step hF hp hc
    obtain ⟨h3, h4⟩ := h1.same1
    obtain ⟨A, c, hg⟩ := own_slice' h1.s1
    refine ⟨A, y1.length, c, p, y1, by rw [hg], h1.blk, ?_⟩
    rw [← hg]
    exact ⟨h3, h.inv, h.i, hni, h.la, h.lb, h.l0, by omega, h.m0, h.m1, (h.chg.trans h2).trans h4⟩
  cases hck : chkMsg y.m with
  | false =>
    exact (says1_bad wr F wr.heap.size P C0 p g1 y.m y.s1 y.s2 y.s3 hP hin hck).mono unch
  | true =>
    refine (says1_any wr F wr.heap.size P C0 p g1 y1 y.m y.s1 y.s2 y.s3 hP hin hck h.inv.w1 h.at_.s1 (by omega) (fun q hq => ⟨fun hm => (hF q hm).2.2.2.2 hq, rowOf_lt h.at_.s1 q hq⟩) (fun q hq => (hF q hq).2.1)).mono ?_
    rintro e w' (hu | ⟨hok, F', g', rfl, hp, hF', ho, hlies, hc⟩)
    · exact unch e w' hu
    · obtain ⟨h1, h2⟩ := h.at_.says1 (y := y) hF hp hF' ho hlies hc
      obtain ⟨A, c, rfl⟩ := own_slice' ho
      refine ⟨A, y1.length + 1, c, say1 p y.m, y1 ++ [y], rfl, h.at_.blk.chg hc.chg (fun hm => ?_), ⟨h1, ?_, h.i, hni, h.la, h.lb, h.l0, by simp; omega, h.m0, fun z hz => ?_, h.chg.trans h2⟩⟩
      · rcases List.mem_append.1 hm with hm | hm
        · exact (h.at_.rows.2 D hm).2 rfl
        · exact (hF D hm).2.2.1 rfl
      · rw [List.map_append]
        exact h.inv.say1 y.m hok (by simp; omega)
      · rcases List.mem_append.1 hz with hz | hz
        · exact h.m1 z hz
        · simp at hz; subst hz; exact List.mem_of_getElem? hy

/-- what a step of the pair leaves -/
def Stepd (W : World) (P C0 D : Nat) (xa xb : List HM) (ni nk : Nat) (p' : Pair Msg) (g0 g1 : Value) (y0 y1 : List HM) (e : Ending) (w' : World) : Prop :=
  (∃ u, e = .returned u) ∧ LawI W P C0 D xa xb ni nk p' g0 g1 y0 y1 w'
theorem LawI.stepd (h : LawI W P C0 D xa xb ni nk p g0 g1 y0 y1 wr) {F : List Nat} (hF : ∀ q ∈ F, W.heap.size ≤ q ∧ q < wr.heap.size ∧ q ≠ D ∧ q ∉ rowOf g0 ∧ q ∉ rowOf g1) {p' : Pair Msg} (ht : TInv p' (y0.map HM.m) (y1.map HM.m)) {w' : World}
    (hp : PairIn w' F wr.heap.size P C0 p') (hc : ChgF F wr.heap.size wr w') : LawI W P C0 D xa xb ni nk p' g0 g1 y0 y1 w' := by
  obtain ⟨h1, h2⟩ := h.at_.step hF hp hc
  exact ⟨h1, ht, h.i, h.k, h.la, h.lb, h.l0, h.l1, h.m0, h.m1, h.chg.trans h2⟩
theorem law_post0 (h : LawI W P C0 D xa xb ni nk p g0 g1 y0 y1 wr) : Calls Try.prog 8 #[ptrV P, .int .i64 0] wr (Stepd W P C0 D xa xb ni nk (p.post 0) g0 g1 y0 y1) := by
  obtain ⟨F, hP, hF⟩ := h.at_.pair
  exact (postT0 wr F wr.heap.size P C0 p _ _ hP h.inv).mono fun e w' ⟨hu, hp, hc⟩ => ⟨hu, h.stepd hF (h.inv.post 0 (.inl rfl)) hp hc⟩
theorem law_post1 (h : LawI W P C0 D xa xb ni nk p g0 g1 y0 y1 wr) : Calls Try.prog 8 #[ptrV P, .int .i64 1] wr (Stepd W P C0 D xa xb ni nk (p.post 1) g0 g1 y0 y1) := by
  obtain ⟨F, hP, hF⟩ := h.at_.pair
  exact (postT1 wr F wr.heap.size P C0 p _ _ hP h.inv).mono fun e w' ⟨hu, hp, hc⟩ => ⟨hu, h.stepd hF (h.inv.post 1 (.inr rfl)) hp hc⟩
theorem law_comes (h : LawI W P C0 D xa xb ni nk p g0 g1 y0 y1 wr) (j : Nat) (hj : j < p.net.length) : Calls Try.prog 9 #[ptrV P, i64 (j : Int)] wr (Stepd W P C0 D xa xb ni nk (p.comes j) g0 g1 y0 y1) := by
  obtain ⟨F, hP, hF⟩ := h.at_.pair
  exact (comesT wr F wr.heap.size P C0 j p _ _ hP h.inv hj).mono fun e w' ⟨hu, hp, hc⟩ => ⟨hu, h.stepd hF (h.inv.comes j) hp hc⟩
end
end Go.Proofs.Yteajdkneiejlaaa

/- What net's Len, Take and Double leave of the state of TopEveryMail's loop. -/
namespace Go.Proofs.Yteajdkneiejlaaa
open Go.RowKit Hg

set_option maxHeartbeats 1000000 in
set_option maxRecDepth 100000 in
/-- the net is full: nothing is doubled -/
theorem dbl_full (N base n i : Nat) (v : Value) (xs : List Value) (w : World) (hN : NetAt w N base n v xs) (hi : i < n) (hn : 4096 ≤ n) (hn2 : n ≤ 4096) :
    Calls Try.prog 11 #[.pointer (some ⟨N, 0, none⟩), i64 (i : Int)] w (Ret (.int .i64 8) w) := by
  obtain ⟨hB, hown, hne⟩ := hN
  obtain ⟨B, c, rfl⟩ := own_slice' hown
  have hk : inNet (i : Int) n = true := by simp [inNet]; omega
  have c1 : w.cell? ⟨N, 1, none⟩ = some (.slice B n c) := hB.cell 1
  have A1 := Lib.hid (at_any N B n c (i : Int) _ c1)
  rw [hk] at A1
  clear hk hown hB
  go_enter Try.func11, Try.ntmps11
  go_wp2_with (go_at_call 26; refine A1.out.mono ?_; rintro e w1 ⟨rfl, rfl⟩)
  go_ret
  exact ⟨rfl, Chg.refl _ _⟩

section
variable {W wr : World} {P C0 D : Nat} {xa xb : List HM} {ni nk : Nat} {p : Pair Msg} {g0 g1 : Value} {y0 y1 : List HM}
theorem TInv.net {p : Pair Msg} {s0 s1 : List Msg} (t : TInv p s0 s1) (net : List (Pk Msg)) (h : PInv { p with net := net } s0 s1) : TInv { p with net := net } s0 s1 := ⟨h, t.g0, t.g1, t.w0, t.w1, t.l0, t.l1⟩

theorem law_net (h : LawI W P C0 D xa xb ni nk p g0 g1 y0 y1 wr) : ∃ N, wr.cell? ⟨P, 2, none⟩ = some (ptrV N) ∧ Calls Try.prog 7 #[ptrV N] wr (Same (i64 (p.net.length : Int)) wr) ∧
    (∀ j : Nat, j < p.net.length → Calls Try.prog 10 #[ptrV N, i64 (j : Int)] wr fun e w' => ∃ p', Stepd W P C0 D xa xb ni nk p' g0 g1 y0 y1 e w') ∧
    (∀ j : Nat, j < p.net.length → Calls Try.prog 11 #[ptrV N, i64 (j : Int)] wr fun e w' => ∃ p', Stepd W P C0 D xa xb ni nk p' g0 g1 y0 y1 e w') := by
  obtain ⟨F, ⟨C1, N, v0, v1, vn, a0, a1, x0, x1, hP⟩, hF⟩ := h.at_.pair
  refine ⟨N, hP.blk.cell 2, pairLen hP, fun j hj => ?_, fun j hj => ?_⟩
  · have X := flat_get (enc := packC) (size := 3) (fun _ => rfl) p.net j p.net[j] (List.getElem?_eq_getElem hj)
    refine (takeN_any N 0 p.net.length j vn (p.net.flatMap packC) _ _ _ wr hP.net hj hP.room (pack_one _) (X 0 (by decide)) (X 1 (by decide)) (X 2 (by decide))).mono ?_
    rintro e w' ⟨rfl, vn', hN, hl, hg⟩
    have hP' := PairIn.comesNet hP hj hN hl hg
    exact ⟨_, ⟨_, rfl⟩, h.stepd hF (h.inv.net _ (h.inv.inv.drop j)) ⟨_, _, _, _, _, _, _, _, _, hP'⟩ (ChgF.of hg hP.base (fun q hq => (hP.lt (N :: rowOf vn) (by simp) q hq).1))⟩
  · rcases Nat.lt_or_ge p.net.length 4096 with hr | hr
    · have X := flat_get (enc := packC) (size := 3) (fun _ => rfl) p.net j p.net[j] (List.getElem?_eq_getElem hj)
      refine (dbl_any N 0 p.net.length j vn (p.net.flatMap packC) _ _ _ wr hP.net (by omega) hj hr (X 0 (by decide)) (X 1 (by decide)) (X 2 (by decide))).mono ?_
      rintro e w' ⟨rfl, vn', hN, hl, hg⟩
      have hP' := hP.upNet (net' := p.net ++ [p.net[j]]) (by rw [List.length_append, List.flatMap_append]; exact hN) hl hg (by rw [List.length_append]; exact hr)
      exact ⟨_, ⟨_, rfl⟩, h.stepd hF (h.inv.net _ (h.inv.inv.double (List.getElem_mem hj) hr)) ⟨_, _, _, _, _, _, _, _, _, hP'⟩ (ChgF.of hg hP.base (fun q hq => (hP.lt (N :: rowOf vn) (by simp) q hq).1))⟩
    · refine (dbl_full N 0 p.net.length j vn (p.net.flatMap packC) wr hP.net hj hr hP.room).mono ?_
      rintro e w' ⟨rfl, hg⟩
      exact ⟨_, ⟨_, rfl⟩, h.stepd hF h.inv ⟨_, _, _, _, _, _, _, _, _, hP.new_ hg⟩ (ChgF.of (S := []) hg hP.base (by simp))⟩
end
end Go.Proofs.Yteajdkneiejlaaa

/- The walk of top's rest, of two new nodes; and of met. -/
import Derived.Deep.LoopGhost
import Derived.Test.YteajdkneiejlaaaGPlTop
namespace Go.Proofs.Yteajdkneiejlaaa
open Go.RowKit Hg

/-- two new nodes -/
def q0 : Pair Msg := ⟨⟨3, 0, 1, [], 0, false, false⟩, ⟨8, 0, 1, [], 0, false, false⟩, [], [], []⟩
def comesI : Nat → Pair Msg → Pair Msg
  | 0, p => p
  | n + 1, p => comesI n (p.comes 0)
def rnd (p : Pair Msg) : Pair Msg := (p.post 0).post 1
def Qs : Nat → Pair Msg
  | 0 => q0
  | i + 1 => comesI (rnd (Qs i)).net.length (rnd (Qs i))
theorem comesI_succ (n : Nat) (p : Pair Msg) : comesI (n + 1) p = (comesI n p).comes 0 := by
  induction n generalizing p with
  | zero => rfl
  | succ n ih => rw [comesI, ih]; rfl

def okPkt (x : Hg.Post Msg) : Bool := decide (1 ≤ x.mine) && decide (x.mine ≤ 100) && decide (0 ≤ x.yours) && decide (x.yours ≤ 100) && x.ack == 0 && x.seq == 0 && x.text.isNone
def okE (c : Hg.Chan Msg) : Bool := decide (0 ≤ c.first) && decide (c.first ≤ 100) && decide (0 ≤ c.last) && decide (c.last ≤ 100) && decide (c.wait.length ≤ 100)
def okP0 (p : Pair Msg) : Bool := p.e0.posts.all okPkt && okE p.e0 && decide (p.e0.posts.length ≤ 1000)
def okP1 (p : Pair Msg) : Bool := p.e1.posts.all okPkt && okE p.e1 && decide (p.e1.posts.length ≤ 1000)
def okC (p : Pair Msg) : Bool := match p.net with
  | [] => false
  | x :: _ => okPkt x.post && okE p.e0 && okE p.e1 && ((x.to == 0 && decide (p.e0.yours ≤ x.post.mine) && (p.e0.hearsText x.post).isNone) || (x.to == 1 && decide (p.e1.yours ≤ x.post.mine) && (p.e1.hearsText x.post).isNone))

theorem okPkt_can {x : Hg.Post Msg} (h : okPkt x = true) : PkCan x.mine x.yours x.ack x.seq (tb x.text) := by
  simp only [okPkt, Bool.and_eq_true, decide_eq_true_eq, beq_iff_eq, Option.isNone_iff_eq_none] at h
  obtain ⟨⟨⟨⟨⟨⟨a, b⟩, c⟩, d⟩, e⟩, f⟩, g⟩ := h
  rw [g]
  exact ⟨a, by omega, c, by omega, by omega, by omega, by omega, by omega, Nat.zero_le _, fun _ => rfl⟩
theorem okPkt_seq {x : Hg.Post Msg} (h : okPkt x = true) : x.seq = 0 := by
  simp only [okPkt, Bool.and_eq_true, decide_eq_true_eq, beq_iff_eq, Option.isNone_iff_eq_none] at h
  exact h.1.2
theorem okE_of {c : Hg.Chan Msg} (h : okE c = true) : 0 ≤ c.first ∧ c.first ≤ 100 ∧ 0 ≤ c.last ∧ c.last ≤ 100 ∧ c.wait.length ≤ 100 := by
  simp only [okE, Bool.and_eq_true, decide_eq_true_eq] at h
  exact ⟨h.1.1.1.1, h.1.1.1.2, h.1.1.2, h.1.2, h.2⟩

theorem postQ0 (w : World) (F : List Nat) (b P C0 : Nat) (p : Pair Msg) (h : PairIn w F b P C0 p) (hc : okP0 p = true) : Calls Try.prog 8 #[ptrV P, .int .i64 0] w (StepR w F b P C0 (p.post 0)) := by
  simp only [okP0, Bool.and_eq_true, decide_eq_true_eq, List.all_eq_true] at hc
  obtain ⟨⟨h1, h2⟩, h3⟩ := hc
  have := okE_of h2
  exact post0_any w F b P C0 p h (fun x hx => okPkt_can (h1 x hx)) (by omega) (by omega) h3
theorem postQ1 (w : World) (F : List Nat) (b P C0 : Nat) (p : Pair Msg) (h : PairIn w F b P C0 p) (hc : okP1 p = true) : Calls Try.prog 8 #[ptrV P, .int .i64 1] w (StepR w F b P C0 (p.post 1)) := by
  simp only [okP1, Bool.and_eq_true, decide_eq_true_eq, List.all_eq_true] at hc
  obtain ⟨⟨h1, h2⟩, h3⟩ := hc
  have := okE_of h2
  exact post1_any w F b P C0 p h (fun x hx => okPkt_can (h1 x hx)) (by omega) (by omega) h3
theorem comesQ (w : World) (F : List Nat) (b P C0 : Nat) (p : Pair Msg) (h : PairIn w F b P C0 p) (hc : okC p = true) : Calls Try.prog 9 #[ptrV P, .int .i64 0] w (StepR w F b P C0 (p.comes 0)) := by
  unfold okC at hc
  cases hn : p.net with
  | nil => rw [hn] at hc; simp at hc
  | cons x r =>
    rw [hn] at hc
    simp only [Bool.and_eq_true, Bool.or_eq_true, decide_eq_true_eq, beq_iff_eq, Option.isNone_iff_eq_none] at hc
    obtain ⟨⟨⟨h1, h2⟩, h3⟩, h4⟩ := hc
    have e0 := okE_of h2
    have e1 := okE_of h3
    have hs := okPkt_seq h1
    have hx : p.net[0]? = some x := by rw [hn]; rfl
    rcases h4 with ⟨⟨ht, hy⟩, hm⟩ | ⟨⟨ht, hy⟩, hm⟩
    · exact comes0_none w F b P C0 0 p x h hx ht (okPkt_can h1) hy (fun h0 => by omega) (by omega) (by omega) (by omega) (by omega) (by omega) hm
    · exact comes1_none w F b P C0 0 p x h hx ht (okPkt_can h1) hy (fun h0 => by omega) (by omega) (by omega) (by omega) (by omega) (by omega) hm

theorem Q_posts : ∀ i, i < 4 → okP0 (Qs i) = true ∧ okP1 ((Qs i).post 0) = true := by decide +kernel
theorem Q_comes : ∀ i, i < 4 → ∀ t, t < (rnd (Qs i)).net.length → okC (comesI t (rnd (Qs i))) = true := by decide +kernel
theorem Q_len : ∀ i, i < 4 → ∀ t, t < (rnd (Qs i)).net.length + 1 → (comesI t (rnd (Qs i))).net.length = (rnd (Qs i)).net.length - t := by decide +kernel
theorem Q_last : (rnd (Qs 3)).net.length = 0 := by decide +kernel
theorem Q_pos : ∀ i, i < 3 → 0 < (rnd (Qs i)).net.length := by decide +kernel

/-- a net's length is told -/
theorem pairLen {w : World} {F : List Nat} {b P C0 C1 N : Nat} {v0 v1 vn g0 g1 : Value} {p : Pair Msg} {x0 x1 : List HM} (h : PairAt w F b P C0 C1 N v0 v1 vn g0 g1 p x0 x1) :
    Calls Try.prog 7 #[ptrV N] w (Same (i64 (p.net.length : Int)) w) := by
  obtain ⟨A, c, hv⟩ := own_slice' h.net.2.1
  exact netLen_any N A p.net.length c w (by rw [← hv]; exact h.net.1.cell 1)

def RestOut (w : World) (F : List Nat) (b P C0 : Nat) (i : Value) (wr : World) : Prop := ∃ k : Nat, k < 4 ∧ i = .int .i64 k ∧ PairIn wr F b P C0 (Qs k) ∧ ChgF F b w wr
def RestIn (w : World) (F : List Nat) (b P C0 k L : Nat) (n : Nat) (wr : World) : Prop := n ≤ L ∧ PairIn wr F b P C0 (comesI (L - n) (rnd (Qs k))) ∧ ChgF F b w wr

set_option maxHeartbeats 2000000 in
set_option maxRecDepth 100000 in
theorem rest_any (w : World) (F : List Nat) (b P C0 : Nat) (h : PairIn w F b P C0 q0) : Calls Try.prog 16 #[ptrV P] w (StepR w F b P C0 (rnd (Qs 3))) := by
  have H := Lib.hid h
  clear h
  go_enter Try.func16, Try.ntmps16
  go_wp2_with fail
  go_loopw [2] (fun i wr => RestOut w F b P C0 i wr) (fun i _ => 4 - (intOf i).toNat)
  case atStart => exact ⟨0, by omega, rfl, H.out, ChgF.refl _ _ _⟩
  case round =>
    obtain ⟨k, hk, rfl, hP, hC⟩ := hrel
    have hk2 : (k : Int) < 200 := by omega
    have A0 := Lib.hid (postQ0 wr F b P C0 (Qs k) hP (Q_posts k hk).1)
    have A1 := Lib.hid (fun w1 (h1 : PairIn w1 F b P C0 ((Qs k).post 0)) => postQ1 w1 F b P C0 ((Qs k).post 0) h1 (Q_posts k hk).2)
    have HC := Lib.hid hC
    have hR : Hid (((Qs k).post 0).post 1 = rnd (Qs k)) := rfl
    clear hP hC
    go_wp2_with fail
    (with_reducible refine A0.out.mono ?_)
    rintro e w1 ⟨⟨u1, rfl⟩, hP1, hC1⟩
    have B1 := Lib.hid (A1.out w1 hP1)
    have HC1 := Lib.hid hC1
    clear A0 A1 hP1 hC1
    go_wp2_with fail
    (with_reducible refine B1.out.mono ?_)
    rintro e w2 ⟨⟨u2, rfl⟩, hP2, hC2⟩
    rw [hR.out] at hP2
    have HC2 : Hid (ChgF F b w w2) := (HC.out.trans HC1.out).trans hC2
    obtain ⟨C1, N, v0, v1, vn, g0, g1, x0, x1, hA⟩ := hP2
    have d2 : w2.cell? ⟨P, 2, none⟩ = some (ptrV N) := hA.blk.cell 2
    have L1 := Lib.hid (pairLen hA)
    have HA := Lib.hid hA
    obtain ⟨L, hL⟩ : ∃ L, (rnd (Qs k)).net.length = L := ⟨_, rfl⟩
    rw [hL] at L1
    have HL := Lib.hid hL
    clear B1 HC1 HC hC2 hA hL
    rcases Nat.lt_or_ge k 3 with hk3 | hk3
    · have hLp : 0 < L := by rw [← HL.out]; exact Q_pos k hk3
      have e0 : ((L : Int) == 0) = false := by simp; omega
      go_wp2_with (go_at_call 7; refine L1.out.mono ?_; rintro e w3 ⟨rfl, rfl⟩)
      clear e0 L1 d2
      go_loopg [] L (fun n wr => RestIn w F b P C0 k L n wr)
      case atStart => exact ⟨Nat.le_refl _, by rw [Nat.sub_self]; exact ⟨C1, N, v0, v1, vn, g0, g1, x0, x1, HA.out⟩, HC2.out⟩
      case round =>
        obtain ⟨hn, hP, hC⟩ := hrel
        have hlen := Q_len k hk (L - gk) (by rw [HL.out]; omega)
        rw [HL.out] at hlen
        have hlen2 : (comesI (L - gk) (rnd (Qs k))).net.length = gk := by omega
        obtain ⟨C1', N', v0', v1', vn', g0', g1', x0', x1', hA2⟩ := hP
        have d2 : wr.cell? ⟨P, 2, none⟩ = some (ptrV N') := hA2.blk.cell 2
        have L2 := Lib.hid (pairLen hA2)
        rw [hlen2] at L2
        have HA2 : Hid (PairIn wr F b P C0 (comesI (L - gk) (rnd (Qs k)))) := ⟨C1', N', v0', v1', vn', g0', g1', x0', x1', hA2⟩
        have HCr := Lib.hid hC
        clear hA2 hC hlen hlen2 HA HC2
        rcases Nat.eq_zero_or_pos gk with hg0 | hgp
        · subst hg0
          have HQ : Hid (Qs (k + 1) = comesI (L - 0) (rnd (Qs k))) := by
            show comesI (rnd (Qs k)).net.length (rnd (Qs k)) = _
            rw [HL.out]; rfl
          go_wp2_with (go_at_call 7; refine L2.out.mono ?_; rintro e w3 ⟨rfl, rfl⟩)
          go_roundw
          case rel => exact ⟨k + 1, by omega, by go_num, by rw [HQ.out]; exact HA2.out, HCr.out⟩
          case measure => simp [intOf]; omega
        · have B2 := Lib.hid (comesQ wr F b P C0 _ HA2.out (Q_comes k hk (L - gk) (by rw [HL.out]; omega)))
          have hgi : (0 : Int) < (gk : Int) := by omega
          go_wp2_with (first
            | (go_at_call 7; refine L2.out.mono ?_; rintro e w3 ⟨rfl, rfl⟩)
            | (go_at_call 9; refine B2.out.mono ?_; rintro e w4 ⟨⟨u4, rfl⟩, hP4, hC4⟩))
          have HR4 := Lib.hid (And.intro hP4 hC4)
          clear hP4 hC4 B2 L2
          go_roundg (gk - 1)
          case measure => omega
          case rel =>
            refine ⟨by omega, ?_, HCr.out.trans HR4.out.2⟩
            have e : L - (gk - 1) = (L - gk) + 1 := by omega
            rw [e, comesI_succ]
            exact HR4.out.1
    · have : k = 3 := by omega
      subst this
      have hL0 : L = 0 := by rw [← HL.out]; exact Q_last
      subst hL0
      go_wp2_with (go_at_call 7; refine L1.out.mono ?_; rintro e w3 ⟨rfl, rfl⟩)
      refine bodyPost_ret (results_none rfl _ _ _) rfl ?_
      exact ⟨⟨_, rfl⟩, ⟨C1, N, v0, v1, vn, g0, g1, x0, x1, HA.out⟩, HC2.out⟩
end Go.Proofs.Yteajdkneiejlaaa

/- What is kept by all that happens to the two nodes, and that no step goes wrong. -/
import Derived.Test.YteajdkneiejlaaaGComes
namespace Go.Proofs.Yteajdkneiejlaaa
open Go.RowKit Hg

theorem acked_wait (c : Hg.Chan Msg) (p : Hg.Post Msg) : (c.acked p).wait.length ≤ c.wait.length := by
  unfold Hg.Chan.acked; split <;> simp
theorem hears_wait (c : Hg.Chan Msg) (p : Hg.Post Msg) : (c.hears p).wait.length ≤ c.wait.length := by
  have hm : (c.meets p).wait.length ≤ c.wait.length := by unfold Hg.Chan.meets; split <;> simp
  unfold Hg.Chan.hears
  simp only
  split
  · split
    · exact Nat.le_trans (acked_wait _ _) hm
    · exact Nat.le_trans (acked_wait _ _) hm
  · exact hm

/-- messages that can be said -/
def Good (s : List Msg) : Prop := ∀ m ∈ s, chkMsg m = true ∧ (eMsg m).length ≤ 65472

structure TInv (p : Pair Msg) (s0 s1 : List Msg) : Prop where
  inv : PInv p s0 s1
  g0 : Good s0
  g1 : Good s1
  w0 : p.e0.wait.length ≤ 1024
  w1 : p.e1.wait.length ≤ 1024
  l0 : s0.length ≤ 2097152
  l1 : s1.length ≤ 2097152

theorem pk_text {x : Pk Msg} {k : Int} {c : Hg.Chan Msg} {s : List Msg} (h : PkOk x k c s) : (x.post.seq = 0 ∧ x.post.text = none) ∨ (0 < x.post.seq ∧ ∃ m ∈ s, x.post.text = some m) := by
  have h1 := h.seq0; have h2 := h.seq; have h3 := h.text
  by_cases e : x.post.seq = 0
  · rw [if_pos e] at h3; exact .inl ⟨e, h3⟩
  · rw [if_neg e, List.getElem?_eq_getElem (by omega)] at h3
    exact .inr ⟨by omega, _, List.getElem_mem _, h3⟩

theorem can_of {x : Pk Msg} {k : Int} {c : Hg.Chan Msg} {s : List Msg} (h : PkOk x k c s) (g : Good s) (hl : s.length ≤ 2097152) (hc : c.last ≤ 2097152) : PkCan x.post.mine x.post.yours x.post.ack x.post.seq (tb x.post.text) := by
  have h1 := h.mine; have h2 := h.yours; have h3 := h.ack0; have h4 := h.ack; have h5 := h.seq0; have h6 := h.seq
  have e1 : ep k = 3 ∨ ep k = 8 := by unfold ep; split <;> simp
  have e2 : ep (1 - k) = 3 ∨ ep (1 - k) = 8 := by unfold ep; split <;> simp
  refine ⟨by omega, by omega, by omega, by omega, by omega, by omega, by omega, by omega, ?_, ?_⟩
  · rcases pk_text h with ⟨_, e⟩ | ⟨_, m, hm, e⟩
    · rw [e]; exact Nat.zero_le _
    · rw [e]; exact (g m hm).2
  · intro e0
    rcases pk_text h with ⟨_, e⟩ | ⟨e, _⟩
    · rw [e]; rfl
    · omega

theorem TInv.post (k : Int) (hk : k = 0 ∨ k = 1) {p : Pair Msg} {s0 s1 : List Msg} (t : TInv p s0 s1) : TInv (p.post k) s0 s1 := by
  refine ⟨t.inv.post k hk, t.g0, t.g1, ?_, ?_, t.l0, t.l1⟩
  · rcases hk with rfl | rfl
    · exact t.w0
    · exact t.w0
  · rcases hk with rfl | rfl
    · exact t.w1
    · exact t.w1

theorem postT0 (w : World) (F : List Nat) (b P C0 : Nat) (p : Pair Msg) (s0 s1 : List Msg) (h : PairIn w F b P C0 p) (t : TInv p s0 s1) : Calls Try.prog 8 #[ptrV P, .int .i64 0] w (StepR w F b P C0 (p.post 0)) := by
  have a1 := t.inv.d0.first; have a2 := t.inv.d0.le1; have a3 := t.inv.d0.le2; have a4 := t.l0; have a5 := t.l1; have a6 := t.inv.d1.le2
  refine post0_any w F b P C0 p h (fun x hx => ?_) (by omega) (by omega) (by have := posts_len t.inv.d0; omega)
  exact can_of (posts_ok t.inv.d0 t.inv.d1 x hx) t.g0 t.l0 (by omega)
theorem postT1 (w : World) (F : List Nat) (b P C0 : Nat) (p : Pair Msg) (s0 s1 : List Msg) (h : PairIn w F b P C0 p) (t : TInv p s0 s1) : Calls Try.prog 8 #[ptrV P, .int .i64 1] w (StepR w F b P C0 (p.post 1)) := by
  have a1 := t.inv.d1.first; have a2 := t.inv.d1.le1; have a3 := t.inv.d1.le2; have a4 := t.l0; have a5 := t.l1; have a6 := t.inv.d0.le2
  refine post1_any w F b P C0 p h (fun x hx => ?_) (by omega) (by omega) (by have := posts_len t.inv.d1; omega)
  exact can_of (posts_ok t.inv.d1 t.inv.d0 x hx) t.g1 t.l1 (by omega)

theorem got_wait (p : Pair Msg) (x : Pk Msg) : (p.got x).e0.wait.length ≤ p.e0.wait.length ∧ (p.got x).e1.wait.length ≤ p.e1.wait.length := by
  unfold Pair.got Pair.addH Pair.setE Pair.e
  by_cases h : x.to = 0
  · simp [h]; exact hears_wait _ _
  · simp [h]; exact hears_wait _ _
theorem TInv.comes (j : Nat) {p : Pair Msg} {s0 s1 : List Msg} (t : TInv p s0 s1) : TInv (p.comes j) s0 s1 := by
  have hw : (p.comes j).e0.wait.length ≤ p.e0.wait.length ∧ (p.comes j).e1.wait.length ≤ p.e1.wait.length := by
    unfold Pair.comes
    split
    · exact ⟨Nat.le_refl _, Nat.le_refl _⟩
    · exact got_wait p _
  exact ⟨t.inv.comes j, t.g0, t.g1, Nat.le_trans hw.1 t.w0, Nat.le_trans hw.2 t.w1, t.l0, t.l1⟩

theorem hearsText_mem {c : Hg.Chan Msg} {p : Hg.Post Msg} {m : Msg} (h : c.hearsText p = some m) : p.text = some m := by
  unfold Hg.Chan.hearsText at h
  simp only at h
  split at h
  · split at h
    · exact h
    · cases h
  · cases h

theorem comesT (w : World) (F : List Nat) (b P C0 j : Nat) (p : Pair Msg) (s0 s1 : List Msg) (h : PairIn w F b P C0 p) (t : TInv p s0 s1) (hj : j < p.net.length) : Calls Try.prog 9 #[ptrV P, i64 (j : Int)] w (StepR w F b P C0 (p.comes j)) := by
  have a1 := t.inv.d1.first; have a2 := t.inv.d1.le1; have a3 := t.inv.d1.le2; have a4 := t.l0; have a5 := t.l1; have a6 := t.inv.d0.le2
  have b1 := t.inv.d0.first; have b2 := t.inv.d0.le1
  have c0 := t.w0; have c1 := t.w1
  have hx := List.getElem?_eq_getElem hj
  have hm := List.getElem_mem hj
  generalize p.net[j] = x at hx hm
  rcases t.inv.pk x hm with ⟨hf, hp⟩ | ⟨hf, hp⟩
  · have hto : x.to = 1 := by rw [hp.to]; rfl
    have hcan := can_of hp t.g0 t.l0 (by omega)
    have hst : p.e1.yours ≤ x.post.mine := by rw [t.inv.d1.yours, hp.mine]; decide
    have hts : 0 < x.post.seq → x.post.text.isSome = true := fun h0 => by
      rcases pk_text hp with ⟨e, _⟩ | ⟨_, m, _, e⟩
      · omega
      · rw [e]; rfl
    cases hh : p.e1.hearsText x.post with
    | none => exact comes1_none w F b P C0 j p x h hx hto hcan hst hts (by omega) (by omega) (by omega) (by omega) (by omega) hh
    | some m =>
      have hmt := hearsText_mem hh
      rcases pk_text hp with ⟨_, e⟩ | ⟨_, m', hm', e⟩
      · rw [e] at hmt; cases hmt
      · rw [e] at hmt
        injection hmt with hmt
        subst hmt
        have hlen : p.h1.length ≤ s0.length := by rw [t.inv.d0.heard, List.length_take]; omega
        exact comes1_some w F b P C0 j p x m' h hx hto hcan hst hts (by omega) (by omega) (by omega) (by omega) (by omega) hh (t.g0 m' hm').1 (by omega)
  · have hto : x.to = 0 := by rw [hp.to]; rfl
    have hcan := can_of hp t.g1 t.l1 (by omega)
    have hst : p.e0.yours ≤ x.post.mine := by rw [t.inv.d0.yours, hp.mine]; decide
    have hts : 0 < x.post.seq → x.post.text.isSome = true := fun h0 => by
      rcases pk_text hp with ⟨e, _⟩ | ⟨_, m, _, e⟩
      · omega
      · rw [e]; rfl
    cases hh : p.e0.hearsText x.post with
    | none => exact comes0_none w F b P C0 j p x h hx hto hcan hst hts (by omega) (by omega) (by omega) (by omega) (by omega) hh
    | some m =>
      have hmt := hearsText_mem hh
      rcases pk_text hp with ⟨_, e⟩ | ⟨_, m', hm', e⟩
      · rw [e] at hmt; cases hmt
      · rw [e] at hmt
        injection hmt with hmt
        subst hmt
        have hlen : p.h0.length ≤ s1.length := by rw [t.inv.d1.heard, List.length_take]; omega
        exact comes0_some w F b P C0 j p x m' h hx hto hcan hst hts (by omega) (by omega) (by omega) (by omega) (by omega) hh (t.g1 m' hm').1 (by omega)
end Go.Proofs.Yteajdkneiejlaaa

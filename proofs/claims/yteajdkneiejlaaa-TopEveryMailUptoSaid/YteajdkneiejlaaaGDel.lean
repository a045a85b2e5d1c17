/- The walk of slices.Delete at packets, of one packet out of a row of the own. -/
import Derived.Lib.SliceRun
import Derived.Test.YteajdkneiejlaaaGSend
namespace Go.Proofs.Yteajdkneiejlaaa
open Go.RowKit Hg

/-- an array with these values laid from o on -/
def layA : Array Value → Nat → List Value → Array Value
  | cs, _, [] => cs
  | cs, o, v :: r => layA (cs.setIfInBounds o v) (o + 1) r
theorem layA_size : ∀ (vs : List Value) (cs : Array Value) (o : Nat), (layA cs o vs).size = cs.size
  | [], _, _ => rfl
  | v :: r, cs, o => by rw [layA, layA_size r]; simp
theorem layA_get : ∀ (vs : List Value) (cs : Array Value) (o j : Nat), j < cs.size → (layA cs o vs)[j]? = if o ≤ j ∧ j < o + vs.length then vs[j - o]? else cs[j]?
  | [], cs, o, j, h => by rw [layA, if_neg (by simp only [List.length_nil]; omega)]
  | v :: r, cs, o, j, h => by
    rw [layA, layA_get r _ _ _ (by simpa using h)]
    by_cases h1 : o + 1 ≤ j ∧ j < o + 1 + r.length
    · rw [if_pos h1, if_pos (by simp; omega)]
      have : j - o = (j - (o + 1)) + 1 := by omega
      rw [this, List.getElem?_cons_succ]
    · rw [if_neg h1]
      by_cases h2 : j = o
      · subst h2
        rw [if_pos (by simp)]
        simp [h]
      · rw [if_neg (by simp; omega)]
        rw [Array.getElem?_setIfInBounds_ne (by omega)]
theorem blk_setCells {g : Nat} {t : TypeId} : ∀ (vs : List Value) {w : World} {cs : Array Value} (o : Nat), Blk w g t cs → Blk (w.setCells g o vs) g t (layA cs o vs)
  | [], _, _, _, h => h
  | v :: r, _, _, o, h => blk_setCells r (o + 1) (h.set_ o v)
theorem chg_setCells {S : List Nat} {g : Nat} : ∀ (vs : List Value) {w0 w : World} (o : Nat), Chg S w0 w → (g ∈ S ∨ w0.heap.size ≤ g) → Chg S w0 (w.setCells g o vs)
  | [], _, _, _, h, _ => h
  | v :: r, _, _, o, h, hg => chg_setCells r (o + 1) (h.setCell hg v) hg

/-- a row without its element i, of size cells each -/
def cutAt (size i : Nat) (xs : List Value) : List Value := xs.take (i * size) ++ xs.drop ((i + 1) * size)

theorem cut_cells {cs : Array Value} {xs : List Value} {n i : Nat} (z : List Value) (_hz : z.length = 3) (hi : i < n) (hl : xs.length = n * 3) (hs : n * 3 ≤ cs.size) (h : cs.toList.take (n * 3) = xs) :
    (layA (layA cs (i * 3) (xs.drop ((i + 1) * 3))) ((n - 1) * 3) z).toList.take ((n - 1) * 3) = cutAt 3 i xs := by
  apply List.ext_getElem?
  intro j
  have hx : ∀ q, q < n * 3 → xs[q]? = cs[q]? := by
    intro q hq
    rw [← h, List.getElem?_take, if_pos hq, Array.getElem?_toList]
  have hdl : (xs.drop ((i + 1) * 3)).length = (n - 1) * 3 - i * 3 := by rw [List.length_drop, hl]; omega
  rcases Nat.lt_or_ge j ((n - 1) * 3) with hj | hj
  · rw [List.getElem?_take, if_pos hj, Array.getElem?_toList, layA_get _ _ _ _ (by rw [layA_size]; omega), if_neg (by omega), layA_get _ _ _ _ (by omega)]
    unfold cutAt
    by_cases hi3 : i * 3 ≤ j
    · rw [if_pos (by rw [hdl]; omega), List.getElem?_append_right (by rw [List.length_take, hl]; omega)]
      rw [List.length_take, hl, Nat.min_eq_left (by omega)]
    · rw [if_neg (by omega), List.getElem?_append_left (by rw [List.length_take, hl]; omega), List.getElem?_take, if_pos (by omega), hx j (by omega)]
  · rw [List.getElem?_take, if_neg (by omega)]
    unfold cutAt
    rw [List.getElem?_eq_none]
    rw [List.length_append, List.length_take, hdl, hl]; omega

theorem run_clear_one (w : World) (t e ty : TypeId) (z : Value) (ht : (Try.prog).underlying t = some (.slice e)) (hv : ∀ w, (zeroValue e).run Try.prog w = .ok z w) (vs : List Value) (hz : (Builtin.zeroCells z.cells 1).toList = vs) (h1 : ∀ v ∈ vs, v.oneCell' = true) (b o c : Nat)
    (hc : ∀ j, j < vs.length → (w.cell? ⟨b, o + j, none⟩).isSome = true) (hf : ∀ j, j < vs.length → w.frozen? ⟨b, o + j, none⟩ = false) :
    (Builtin.clear_ #[t] ty #[.slice (some ⟨b, o, none⟩) 1 c]).run Try.prog w = .ok (.tuple #[]) (w.setCells b o vs) := by
  have hst := run_storeCells_cells (P := Try.prog) b o vs 0 w (by simpa using hc) (by simpa using hf) h1
  simp only [Nat.add_zero] at hst
  simp [Builtin.clear_, run_underlying ht, hv, hz, hst]

theorem zeroPk (w : World) : (zeroValue 45).run Try.prog w = .ok (.agg #[i64 0, i64 0, .string ⟨#[]⟩]) w := Try.zeroValue45 w

theorem zcellsPk : (Builtin.zeroCells (Value.agg #[i64 0, i64 0, .string ⟨#[]⟩]).cells 1).toList = [i64 0, i64 0, .string ⟨#[]⟩] := by kernel_rfl

set_option maxHeartbeats 2000000 in
set_option maxRecDepth 100000 in
theorem delPk_any (base g n c i j : Nat) (xs : List Value) (w : World) (hown : w.ownsRow base 45 3 (.slice (some ⟨g, 0, none⟩) n c) n xs) (hi : i < n) (hj : j = i + 1) (hone : ∀ v ∈ xs, v.oneCell' = true) :
    Calls Try.prog 27 #[.slice (some ⟨g, 0, none⟩) n c, i64 (i : Int), i64 (j : Int)] w fun e w' => e = .returned (.slice (some ⟨g, 0, none⟩) (n - 1) c) ∧
      w'.ownsRow base 45 3 (.slice (some ⟨g, 0, none⟩) (n - 1) c) (n - 1) (cutAt 3 i xs) ∧ Chg [g] w w' := by
  obtain ⟨i0, hi0, hz0, hz1, hz2⟩ := info_parts infoPk
  obtain ⟨hl, h | ⟨g', cap, cs, hv, hbg, hgg, hnc, hcm, hsz, htk⟩⟩ := hown
  · cases h.1
  injection hv with h1 h2 h3
  cases h1
  cases h3
  have hB : Blk w g 45 cs := hgg
  have hx : ∀ q, q < n * 3 → xs[q]? = cs[q]? := by
    intro q hq
    rw [← htk, List.getElem?_take, if_pos hq, Array.getElem?_toList]
  obtain ⟨news, hnews⟩ : ∃ news, news = xs.drop (j * 3) := ⟨_, rfl⟩
  have hlen : news.length = (n - j) * 3 := by rw [hnews, List.length_drop, hl]; omega
  obtain ⟨A, hA, hsrc⟩ : ∃ A : Addr, (if c = j then some (⟨g, 0, none⟩ : Addr) else some ⟨g, j * 3, none⟩) = some A ∧ Hid (∀ t u, news[t]? = some u → w.drew.cell? (A.add t) = some u) := by
    by_cases h : c = j
    · refine ⟨⟨g, 0, none⟩, by simp [h], fun t u hu => ?_⟩
      have h0 : news.length = 0 := by rw [hlen]; omega
      rw [List.length_eq_zero_iff.1 h0] at hu
      simp at hu
    · refine ⟨⟨g, j * 3, none⟩, by simp [h], fun t u hu => ?_⟩
      have ht : t < (n - j) * 3 := by
        have := (List.getElem?_eq_some_iff.1 hu).1
        rwa [hlen] at this
      rw [hnews, List.getElem?_drop, hx _ (by omega)] at hu
      rw [Addr.add_lit]
      exact (hB.cell _).trans hu
  have s1 : Hid (news.length = (n - j) * 3) := hlen
  have s2 : Hid (∀ u ∈ news, u.oneCell' = true) := by
    intro u hu
    rw [hnews] at hu
    exact hone u (List.mem_of_mem_drop hu)
  have s3 : Hid (∀ t, t < news.length → (w.drew.cell? ⟨g, 0 + i * 3 + t, none⟩).isSome = true ∧ w.drew.frozen? ⟨g, 0 + i * 3 + t, none⟩ = false) := by
    intro t ht
    rw [hlen] at ht
    refine ⟨?_, hB.frozen _⟩
    show (w.cell? _).isSome = true
    rw [hB.cell, Array.getElem?_eq_getElem (by omega)]; rfl
  have e1 : ((i : Int) == (j : Int)) = false := by simp; omega
  have e2 : i ≤ j := by omega
  have e3 : j ≤ n := by omega
  have e4 : i ≤ c := by omega
  have e5 : j ≤ c := by omega
  have e6 : ¬ (n = i) := by omega
  have H := Lib.hid (And.intro hj (And.intro hi (And.intro hsz (And.intro htk (And.intro hl (And.intro hnews hB))))))
  clear hgg hx hlen hj hi hsz htk hl hnews hB hone
  go_enter Try.func27, Try.ntmps27
  go_wp2_with fail
  go_region_law (refine step_append_room rfl (.tmp 22) (.tmp 25) 61 rfl 45 i0 3 Try.underlying61 hi0 hz1 g 0 i c (by simp [Act.eval, Act.put]) A (n - j) (c - j) news (by simp [Act.eval, Act.put]) s1.out hsrc.out s2.out (by omega) s3.out ?_)
  obtain ⟨hj, hi, hsz, htk, hl, hnews, hB⟩ := H.out
  obtain ⟨m, hm⟩ : ∃ m, i + (n - j) = m := ⟨_, rfl⟩
  have hnm : n - m = 1 := by omega
  have hn1 : Hid (n = m + 1) := by unfold Hid; omega
  have hB1 : Blk (w.drew.setCells g (i * 3) news) g 45 (layA cs (i * 3) news) := blk_setCells news (i * 3) hB.drew
  have hC1 : Chg [g] w (w.drew.setCells g (i * 3) news) := chg_setCells news (i * 3) (Chg.refl [g] w).drew (.inl (by simp))
  have hsz1 : (layA cs (i * 3) news).size = c * 3 := by rw [layA_size]; exact hsz
  generalize w.drew.setCells g (i * 3) news = W1 at hB1 hC1 ⊢
  have hcl : ∀ ty, (Builtin.clear_ #[61] ty #[.slice (some ⟨g, m * 3, none⟩) 1 (c - m)]).run Try.prog W1 = .ok (.tuple #[]) (W1.setCells g (m * 3) [i64 0, i64 0, .string ⟨#[]⟩]) := fun ty =>
    run_clear_one W1 _ _ ty _ Try.underlying61 zeroPk [i64 0, i64 0, .string ⟨#[]⟩] zcellsPk (by simp [Value.oneCell']) g (m * 3) _ (fun q hq => by
      rw [hB1.cell, Array.getElem?_eq_getElem (by rw [hsz1]; simp at hq; omega)]; rfl) (fun q _ => hB1.frozen _)
  have hB2 : Blk (W1.setCells g (m * 3) [i64 0, i64 0, .string ⟨#[]⟩]) g 45 (layA (layA cs (i * 3) news) (m * 3) [i64 0, i64 0, .string ⟨#[]⟩]) := blk_setCells _ (m * 3) hB1
  have hC2 : Chg [g] w (W1.setCells g (m * 3) [i64 0, i64 0, .string ⟨#[]⟩]) := chg_setCells _ (m * 3) hC1 (.inl (by simp))
  have hcut := cut_cells [i64 0, i64 0, .string ⟨#[]⟩] rfl hi hl (by omega) htk
  rw [← hj, ← hnews, show n - 1 = m by omega] at hcut
  have hmn : m ≤ n := by omega
  have hmc : m ≤ c := by omega
  have e7 : ¬ (c = m) := by omega
  have hcutl : (cutAt 3 i xs).length = m * 3 := by rw [← hcut, List.length_take, Array.length_toList, layA_size, layA_size, hsz]; omega
  have HF := Lib.hid (And.intro hB2 (And.intro hC2 (And.intro hcut hcutl)))
  clear hB1 hC1 hB2 hC2 hcut hcutl hj hi hsz htk hl hnews hB hsz1 s1 s2 s3 hsrc hA
  have hmi : (i : Int) + ((n - j : Nat) : Int) = (m : Int) := by omega
  go_wp2_with fail
  obtain ⟨hB2, hC2, hcut, hcutl⟩ := HF.out
  have hmn1 : n - 1 = m := by have := hn1.out; omega
  have hsz := H.out.2.2.1
  rw [hmn1]
  go_returns
  refine ⟨rfl, ⟨hcutl, .inr ⟨g, c, _, rfl, hbg, hB2, by omega, hcm, ?_, hcut⟩⟩, hC2⟩
  rw [layA_size, layA_size, hsz]
end Go.Proofs.Yteajdkneiejlaaa

/- The walk of Hear, whatever the post that is not stale. (made by a small program) -/
import Derived.Test.YteajdkneiejlaaaGHear2
import Derived.Test.YteajdkneiejlaaaGHear3
namespace Go.Proofs.Yteajdkneiejlaaa
open Go.RowKit Hg

theorem hear_any (C base : Nat) (v : Value) (c : Hg.Chan Msg) (p : Hg.Post Msg) (w : World) (hC : ChanAt w C base v c) (hp : PkCan p.mine p.yours p.ack p.seq (tb p.text)) (hst : c.yours ≤ p.mine) (hts : 0 < p.seq → p.text.isSome = true)
    (hf0 : 0 ≤ c.first) (hf1 : c.first ≤ 1099511627776) (hl0 : 0 ≤ c.last) (hl1 : c.last ≤ 1099511627776) (hlw : c.wait.length ≤ 1099511627776) :
    Calls Try.prog 24 #[.pointer (some ⟨C, 0, none⟩), pkV p.mine p.yours p.ack p.seq (tb p.text)] w (HearR w C base v (c.hears p) (c.hearsText p) (c.anew p)) := by
  obtain ⟨cm, cy, cf, cw, cl, cmet, cowes⟩ := c
  obtain ⟨pm, py, pa, ps, px⟩ := p
  simp only at hp hst hts hf0 hf1 hl0 hl1 hlw ⊢
  by_cases ha : cy < pm
  · by_cases hy : py = cm
    · subst hy
      have hk3 : ¬ 0 < min pa 0 := by omega
      by_cases hs : 0 < ps
      · by_cases ht : ps = 0 + 1
        have hk : min (pa - 1 + 1) 0 ≤ 0 := by omega
        have hk2 : ¬ 0 < min (pa - 1 + 1) 0 := by omega
        have h := hearN_t C base v py cy cf cl cmet cowes cw pm pa ps px w hC hp ha hs hf0 hf1 hl0 hl1 ht (hts hs)
        have e1 : Hg.Chan.hears (⟨py, cy, cf, cw, cl, cmet, cowes⟩ : Hg.Chan Msg) (⟨pm, py, pa, ps, px⟩ : Hg.Post Msg) = ⟨py, pm, 1, [], 0 + 1, true, true⟩ := by simp [Hg.Chan.hears, Hg.Chan.meets, Hg.Chan.anew, Hg.Chan.acked, Hg.Chan.acks, Hg.Chan.takes, ha, ht, hk3]
        have e2 : Hg.Chan.hearsText (⟨py, cy, cf, cw, cl, cmet, cowes⟩ : Hg.Chan Msg) (⟨pm, py, pa, ps, px⟩ : Hg.Post Msg) = px := by simp [Hg.Chan.meets, Hg.Chan.takes, Hg.Chan.hearsText, ha, ht]
        have e3 : Hg.Chan.anew (⟨py, cy, cf, cw, cl, cmet, cowes⟩ : Hg.Chan Msg) (⟨pm, py, pa, ps, px⟩ : Hg.Post Msg) = true := by simp [Hg.Chan.anew, ha]
        rw [e1, e2, e3]
        exact h
        · have ht2 : ¬ ps = 1 := by omega
          have h := hearN_s C base v py cy cf cl cmet cowes cw pm pa ps px w hC hp ha hs hf0 hf1 hl0 hl1 ht
          have e1 : Hg.Chan.hears (⟨py, cy, cf, cw, cl, cmet, cowes⟩ : Hg.Chan Msg) (⟨pm, py, pa, ps, px⟩ : Hg.Post Msg) = ⟨py, pm, 1, [], 0, true, true⟩ := by simp [Hg.Chan.hears, Hg.Chan.meets, Hg.Chan.anew, Hg.Chan.acked, Hg.Chan.acks, Hg.Chan.takes, ha, hs, ht2, hk3]
          have e2 : Hg.Chan.hearsText (⟨py, cy, cf, cw, cl, cmet, cowes⟩ : Hg.Chan Msg) (⟨pm, py, pa, ps, px⟩ : Hg.Post Msg) = none := by simp [Hg.Chan.meets, Hg.Chan.takes, Hg.Chan.hearsText, ha, hs, ht2]
          have e3 : Hg.Chan.anew (⟨py, cy, cf, cw, cl, cmet, cowes⟩ : Hg.Chan Msg) (⟨pm, py, pa, ps, px⟩ : Hg.Post Msg) = true := by simp [Hg.Chan.anew, ha]
          rw [e1, e2, e3]
          exact h
      · have hs2 : ps ≤ 0 := by omega
        have h := hearN_n C base v py cy cf cl cmet cowes cw pm pa ps px w hC hp ha hs hf0 hf1 hl0 hl1
        have e1 : Hg.Chan.hears (⟨py, cy, cf, cw, cl, cmet, cowes⟩ : Hg.Chan Msg) (⟨pm, py, pa, ps, px⟩ : Hg.Post Msg) = ⟨py, pm, 1, [], 0, true, true⟩ := by simp [Hg.Chan.hears, Hg.Chan.meets, Hg.Chan.anew, Hg.Chan.acked, Hg.Chan.acks, Hg.Chan.takes, ha, hs, hk3]
        have e2 : Hg.Chan.hearsText (⟨py, cy, cf, cw, cl, cmet, cowes⟩ : Hg.Chan Msg) (⟨pm, py, pa, ps, px⟩ : Hg.Post Msg) = none := by simp [Hg.Chan.meets, Hg.Chan.takes, Hg.Chan.hearsText, ha, hs]
        have e3 : Hg.Chan.anew (⟨py, cy, cf, cw, cl, cmet, cowes⟩ : Hg.Chan Msg) (⟨pm, py, pa, ps, px⟩ : Hg.Post Msg) = true := by simp [Hg.Chan.anew, ha]
        rw [e1, e2, e3]
        exact h
    · have hy2 : ¬ cm = py := fun e => hy e.symm
      have h := hearN_e C base v cm cy cf cl cmet cowes cw pm py pa ps px w hC hp ha hy
      have e1 : Hg.Chan.hears (⟨cm, cy, cf, cw, cl, cmet, cowes⟩ : Hg.Chan Msg) (⟨pm, py, pa, ps, px⟩ : Hg.Post Msg) = ⟨cm, pm, 1, [], 0, false, true⟩ := by simp [Hg.Chan.hears, Hg.Chan.meets, Hg.Chan.anew, ha, hy]
      have e2 : Hg.Chan.hearsText (⟨cm, cy, cf, cw, cl, cmet, cowes⟩ : Hg.Chan Msg) (⟨pm, py, pa, ps, px⟩ : Hg.Post Msg) = none := by simp [Hg.Chan.meets, Hg.Chan.hearsText, ha, hy]
      have e3 : Hg.Chan.anew (⟨cm, cy, cf, cw, cl, cmet, cowes⟩ : Hg.Chan Msg) (⟨pm, py, pa, ps, px⟩ : Hg.Post Msg) = true := by simp [Hg.Chan.anew, ha]
      rw [e1, e2, e3]
      exact h
  · have hcy : pm = cy := by omega
    subst hcy
    by_cases hy : py = cm
    · subst hy
      by_cases hk : 0 < min (pa - cf + 1) (cw.length : Int)
      · obtain ⟨kn, hkn⟩ : ∃ kn : Nat, min (pa - cf + 1) (cw.length : Int) = (kn : Int) := ⟨(min (pa - cf + 1) (cw.length : Int)).toNat, by omega⟩
        have hk0 : 0 < kn := by omega
        by_cases hs : 0 < ps
        · by_cases ht : ps = cl + 1
          · have ht2 := ht
            have hs3 : 0 < cl + 1 := by omega
            have hs4 : ¬ cl + 1 ≤ 0 := by omega
            cases cowes with
            | true =>
              have h := hearL_tat C base v py cf cl cmet true cw pm pa ps px w hC hp hs hf0 hf1 hl0 hl1 hkn hk0 hlw ht (hts hs)
              have e1 : Hg.Chan.hears (⟨py, pm, cf, cw, cl, cmet, true⟩ : Hg.Chan Msg) (⟨pm, py, pa, ps, px⟩ : Hg.Post Msg) = ⟨py, pm, cf + (kn : Int), cw.drop kn, cl + 1, true, true⟩ := by simp [Hg.Chan.hears, Hg.Chan.meets, Hg.Chan.anew, Hg.Chan.acked, Hg.Chan.acks, Hg.Chan.takes, hkn, hk0, ht, hs3]
              have e2 : Hg.Chan.hearsText (⟨py, pm, cf, cw, cl, cmet, true⟩ : Hg.Chan Msg) (⟨pm, py, pa, ps, px⟩ : Hg.Post Msg) = px := by simp [Hg.Chan.meets, Hg.Chan.takes, Hg.Chan.hearsText, ht, hs3]
              have e3 : Hg.Chan.anew (⟨py, pm, cf, cw, cl, cmet, true⟩ : Hg.Chan Msg) (⟨pm, py, pa, ps, px⟩ : Hg.Post Msg) = false := by simp [Hg.Chan.anew]
              rw [e1, e2, e3]
              exact h
            | false =>
              have h := hearL_fat C base v py cf cl cmet true cw pm pa ps px w hC hp hs hf0 hf1 hl0 hl1 hkn hk0 hlw ht (hts hs)
              have e1 : Hg.Chan.hears (⟨py, pm, cf, cw, cl, cmet, false⟩ : Hg.Chan Msg) (⟨pm, py, pa, ps, px⟩ : Hg.Post Msg) = ⟨py, pm, cf + (kn : Int), cw.drop kn, cl + 1, true, true⟩ := by simp [Hg.Chan.hears, Hg.Chan.meets, Hg.Chan.anew, Hg.Chan.acked, Hg.Chan.acks, Hg.Chan.takes, hkn, hk0, ht, hs3]
              have e2 : Hg.Chan.hearsText (⟨py, pm, cf, cw, cl, cmet, false⟩ : Hg.Chan Msg) (⟨pm, py, pa, ps, px⟩ : Hg.Post Msg) = px := by simp [Hg.Chan.meets, Hg.Chan.takes, Hg.Chan.hearsText, ht, hs3]
              have e3 : Hg.Chan.anew (⟨py, pm, cf, cw, cl, cmet, false⟩ : Hg.Chan Msg) (⟨pm, py, pa, ps, px⟩ : Hg.Post Msg) = false := by simp [Hg.Chan.anew]
              rw [e1, e2, e3]
              exact h
          · have ht2 := ht
            cases cowes with
            | true =>
              have h := hearL_tas C base v py cf cl cmet true cw pm pa ps px w hC hp hs hf0 hf1 hl0 hl1 hkn hk0 hlw ht
              have e1 : Hg.Chan.hears (⟨py, pm, cf, cw, cl, cmet, true⟩ : Hg.Chan Msg) (⟨pm, py, pa, ps, px⟩ : Hg.Post Msg) = ⟨py, pm, cf + (kn : Int), cw.drop kn, cl, true, true⟩ := by simp [Hg.Chan.hears, Hg.Chan.meets, Hg.Chan.anew, Hg.Chan.acked, Hg.Chan.acks, Hg.Chan.takes, hkn, hk0, hs, ht]
              have e2 : Hg.Chan.hearsText (⟨py, pm, cf, cw, cl, cmet, true⟩ : Hg.Chan Msg) (⟨pm, py, pa, ps, px⟩ : Hg.Post Msg) = none := by simp [Hg.Chan.meets, Hg.Chan.takes, Hg.Chan.hearsText, hs, ht]
              have e3 : Hg.Chan.anew (⟨py, pm, cf, cw, cl, cmet, true⟩ : Hg.Chan Msg) (⟨pm, py, pa, ps, px⟩ : Hg.Post Msg) = false := by simp [Hg.Chan.anew]
              rw [e1, e2, e3]
              exact h
            | false =>
              have h := hearL_fas C base v py cf cl cmet true cw pm pa ps px w hC hp hs hf0 hf1 hl0 hl1 hkn hk0 hlw ht
              have e1 : Hg.Chan.hears (⟨py, pm, cf, cw, cl, cmet, false⟩ : Hg.Chan Msg) (⟨pm, py, pa, ps, px⟩ : Hg.Post Msg) = ⟨py, pm, cf + (kn : Int), cw.drop kn, cl, true, true⟩ := by simp [Hg.Chan.hears, Hg.Chan.meets, Hg.Chan.anew, Hg.Chan.acked, Hg.Chan.acks, Hg.Chan.takes, hkn, hk0, hs, ht]
              have e2 : Hg.Chan.hearsText (⟨py, pm, cf, cw, cl, cmet, false⟩ : Hg.Chan Msg) (⟨pm, py, pa, ps, px⟩ : Hg.Post Msg) = none := by simp [Hg.Chan.meets, Hg.Chan.takes, Hg.Chan.hearsText, hs, ht]
              have e3 : Hg.Chan.anew (⟨py, pm, cf, cw, cl, cmet, false⟩ : Hg.Chan Msg) (⟨pm, py, pa, ps, px⟩ : Hg.Post Msg) = false := by simp [Hg.Chan.anew]
              rw [e1, e2, e3]
              exact h
        · have hs2 := hs
          cases cowes with
          | true =>
            have h := hearL_tan C base v py cf cl cmet true cw pm pa ps px w hC hp hs hf0 hf1 hl0 hl1 hkn hk0 hlw
            have e1 : Hg.Chan.hears (⟨py, pm, cf, cw, cl, cmet, true⟩ : Hg.Chan Msg) (⟨pm, py, pa, ps, px⟩ : Hg.Post Msg) = ⟨py, pm, cf + (kn : Int), cw.drop kn, cl, true, true⟩ := by simp [Hg.Chan.hears, Hg.Chan.meets, Hg.Chan.anew, Hg.Chan.acked, Hg.Chan.acks, Hg.Chan.takes, hkn, hk0, hs]
            have e2 : Hg.Chan.hearsText (⟨py, pm, cf, cw, cl, cmet, true⟩ : Hg.Chan Msg) (⟨pm, py, pa, ps, px⟩ : Hg.Post Msg) = none := by simp [Hg.Chan.meets, Hg.Chan.takes, Hg.Chan.hearsText, hs]
            have e3 : Hg.Chan.anew (⟨py, pm, cf, cw, cl, cmet, true⟩ : Hg.Chan Msg) (⟨pm, py, pa, ps, px⟩ : Hg.Post Msg) = false := by simp [Hg.Chan.anew]
            rw [e1, e2, e3]
            exact h
          | false =>
            have h := hearL_fan C base v py cf cl cmet true cw pm pa ps px w hC hp hs hf0 hf1 hl0 hl1 hkn hk0 hlw
            have e1 : Hg.Chan.hears (⟨py, pm, cf, cw, cl, cmet, false⟩ : Hg.Chan Msg) (⟨pm, py, pa, ps, px⟩ : Hg.Post Msg) = ⟨py, pm, cf + (kn : Int), cw.drop kn, cl, true, false⟩ := by simp [Hg.Chan.hears, Hg.Chan.meets, Hg.Chan.anew, Hg.Chan.acked, Hg.Chan.acks, Hg.Chan.takes, hkn, hk0, hs]
            have e2 : Hg.Chan.hearsText (⟨py, pm, cf, cw, cl, cmet, false⟩ : Hg.Chan Msg) (⟨pm, py, pa, ps, px⟩ : Hg.Post Msg) = none := by simp [Hg.Chan.meets, Hg.Chan.takes, Hg.Chan.hearsText, hs]
            have e3 : Hg.Chan.anew (⟨py, pm, cf, cw, cl, cmet, false⟩ : Hg.Chan Msg) (⟨pm, py, pa, ps, px⟩ : Hg.Post Msg) = false := by simp [Hg.Chan.anew]
            rw [e1, e2, e3]
            exact h
      · have hk2 := hk
        by_cases hs : 0 < ps
        · by_cases ht : ps = cl + 1
          · have ht2 := ht
            have hs3 : 0 < cl + 1 := by omega
            have hs4 : ¬ cl + 1 ≤ 0 := by omega
            cases cowes with
            | true =>
              have h := hearL_tt C base v py cf cl cmet true cw pm pa ps px w hC hp hs hf0 hf1 hl0 hl1 rfl hk hlw ht (hts hs)
              have e1 : Hg.Chan.hears (⟨py, pm, cf, cw, cl, cmet, true⟩ : Hg.Chan Msg) (⟨pm, py, pa, ps, px⟩ : Hg.Post Msg) = ⟨py, pm, cf, cw, cl + 1, true, true⟩ := by simp [Hg.Chan.hears, Hg.Chan.meets, Hg.Chan.anew, Hg.Chan.acked, Hg.Chan.acks, Hg.Chan.takes, hk, ht, hs3]
              have e2 : Hg.Chan.hearsText (⟨py, pm, cf, cw, cl, cmet, true⟩ : Hg.Chan Msg) (⟨pm, py, pa, ps, px⟩ : Hg.Post Msg) = px := by simp [Hg.Chan.meets, Hg.Chan.takes, Hg.Chan.hearsText, ht, hs3]
              have e3 : Hg.Chan.anew (⟨py, pm, cf, cw, cl, cmet, true⟩ : Hg.Chan Msg) (⟨pm, py, pa, ps, px⟩ : Hg.Post Msg) = false := by simp [Hg.Chan.anew]
              rw [e1, e2, e3]
              exact h
            | false =>
              have h := hearL_ft C base v py cf cl cmet true cw pm pa ps px w hC hp hs hf0 hf1 hl0 hl1 rfl hk hlw ht (hts hs)
              have e1 : Hg.Chan.hears (⟨py, pm, cf, cw, cl, cmet, false⟩ : Hg.Chan Msg) (⟨pm, py, pa, ps, px⟩ : Hg.Post Msg) = ⟨py, pm, cf, cw, cl + 1, true, true⟩ := by simp [Hg.Chan.hears, Hg.Chan.meets, Hg.Chan.anew, Hg.Chan.acked, Hg.Chan.acks, Hg.Chan.takes, hk, ht, hs3]
              have e2 : Hg.Chan.hearsText (⟨py, pm, cf, cw, cl, cmet, false⟩ : Hg.Chan Msg) (⟨pm, py, pa, ps, px⟩ : Hg.Post Msg) = px := by simp [Hg.Chan.meets, Hg.Chan.takes, Hg.Chan.hearsText, ht, hs3]
              have e3 : Hg.Chan.anew (⟨py, pm, cf, cw, cl, cmet, false⟩ : Hg.Chan Msg) (⟨pm, py, pa, ps, px⟩ : Hg.Post Msg) = false := by simp [Hg.Chan.anew]
              rw [e1, e2, e3]
              exact h
          · have ht2 := ht
            cases cowes with
            | true =>
              have h := hearL_ts C base v py cf cl cmet true cw pm pa ps px w hC hp hs hf0 hf1 hl0 hl1 rfl hk hlw ht
              have e1 : Hg.Chan.hears (⟨py, pm, cf, cw, cl, cmet, true⟩ : Hg.Chan Msg) (⟨pm, py, pa, ps, px⟩ : Hg.Post Msg) = ⟨py, pm, cf, cw, cl, true, true⟩ := by simp [Hg.Chan.hears, Hg.Chan.meets, Hg.Chan.anew, Hg.Chan.acked, Hg.Chan.acks, Hg.Chan.takes, hk, hs, ht]
              have e2 : Hg.Chan.hearsText (⟨py, pm, cf, cw, cl, cmet, true⟩ : Hg.Chan Msg) (⟨pm, py, pa, ps, px⟩ : Hg.Post Msg) = none := by simp [Hg.Chan.meets, Hg.Chan.takes, Hg.Chan.hearsText, hs, ht]
              have e3 : Hg.Chan.anew (⟨py, pm, cf, cw, cl, cmet, true⟩ : Hg.Chan Msg) (⟨pm, py, pa, ps, px⟩ : Hg.Post Msg) = false := by simp [Hg.Chan.anew]
              rw [e1, e2, e3]
              exact h
            | false =>
              have h := hearL_fs C base v py cf cl cmet true cw pm pa ps px w hC hp hs hf0 hf1 hl0 hl1 rfl hk hlw ht
              have e1 : Hg.Chan.hears (⟨py, pm, cf, cw, cl, cmet, false⟩ : Hg.Chan Msg) (⟨pm, py, pa, ps, px⟩ : Hg.Post Msg) = ⟨py, pm, cf, cw, cl, true, true⟩ := by simp [Hg.Chan.hears, Hg.Chan.meets, Hg.Chan.anew, Hg.Chan.acked, Hg.Chan.acks, Hg.Chan.takes, hk, hs, ht]
              have e2 : Hg.Chan.hearsText (⟨py, pm, cf, cw, cl, cmet, false⟩ : Hg.Chan Msg) (⟨pm, py, pa, ps, px⟩ : Hg.Post Msg) = none := by simp [Hg.Chan.meets, Hg.Chan.takes, Hg.Chan.hearsText, hs, ht]
              have e3 : Hg.Chan.anew (⟨py, pm, cf, cw, cl, cmet, false⟩ : Hg.Chan Msg) (⟨pm, py, pa, ps, px⟩ : Hg.Post Msg) = false := by simp [Hg.Chan.anew]
              rw [e1, e2, e3]
              exact h
        · have hs2 := hs
          cases cowes with
          | true =>
            have h := hearL_tn C base v py cf cl cmet true cw pm pa ps px w hC hp hs hf0 hf1 hl0 hl1 rfl hk hlw
            have e1 : Hg.Chan.hears (⟨py, pm, cf, cw, cl, cmet, true⟩ : Hg.Chan Msg) (⟨pm, py, pa, ps, px⟩ : Hg.Post Msg) = ⟨py, pm, cf, cw, cl, true, true⟩ := by simp [Hg.Chan.hears, Hg.Chan.meets, Hg.Chan.anew, Hg.Chan.acked, Hg.Chan.acks, Hg.Chan.takes, hk, hs]
            have e2 : Hg.Chan.hearsText (⟨py, pm, cf, cw, cl, cmet, true⟩ : Hg.Chan Msg) (⟨pm, py, pa, ps, px⟩ : Hg.Post Msg) = none := by simp [Hg.Chan.meets, Hg.Chan.takes, Hg.Chan.hearsText, hs]
            have e3 : Hg.Chan.anew (⟨py, pm, cf, cw, cl, cmet, true⟩ : Hg.Chan Msg) (⟨pm, py, pa, ps, px⟩ : Hg.Post Msg) = false := by simp [Hg.Chan.anew]
            rw [e1, e2, e3]
            exact h
          | false =>
            have h := hearL_fn C base v py cf cl cmet true cw pm pa ps px w hC hp hs hf0 hf1 hl0 hl1 rfl hk hlw
            have e1 : Hg.Chan.hears (⟨py, pm, cf, cw, cl, cmet, false⟩ : Hg.Chan Msg) (⟨pm, py, pa, ps, px⟩ : Hg.Post Msg) = ⟨py, pm, cf, cw, cl, true, false⟩ := by simp [Hg.Chan.hears, Hg.Chan.meets, Hg.Chan.anew, Hg.Chan.acked, Hg.Chan.acks, Hg.Chan.takes, hk, hs]
            have e2 : Hg.Chan.hearsText (⟨py, pm, cf, cw, cl, cmet, false⟩ : Hg.Chan Msg) (⟨pm, py, pa, ps, px⟩ : Hg.Post Msg) = none := by simp [Hg.Chan.meets, Hg.Chan.takes, Hg.Chan.hearsText, hs]
            have e3 : Hg.Chan.anew (⟨py, pm, cf, cw, cl, cmet, false⟩ : Hg.Chan Msg) (⟨pm, py, pa, ps, px⟩ : Hg.Post Msg) = false := by simp [Hg.Chan.anew]
            rw [e1, e2, e3]
            exact h
    · have hy2 := hy
      cases cowes with
      | true =>
        have h := hearE_t C base v cm cf cl cmet true cw pm py pa ps px w hC hp hy
        have e1 : Hg.Chan.hears (⟨cm, pm, cf, cw, cl, cmet, true⟩ : Hg.Chan Msg) (⟨pm, py, pa, ps, px⟩ : Hg.Post Msg) = ⟨cm, pm, cf, cw, cl, cmet, true⟩ := by simp [Hg.Chan.hears, Hg.Chan.meets, Hg.Chan.anew, hy]
        have e2 : Hg.Chan.hearsText (⟨cm, pm, cf, cw, cl, cmet, true⟩ : Hg.Chan Msg) (⟨pm, py, pa, ps, px⟩ : Hg.Post Msg) = none := by simp [Hg.Chan.meets, Hg.Chan.hearsText, hy]
        have e3 : Hg.Chan.anew (⟨cm, pm, cf, cw, cl, cmet, true⟩ : Hg.Chan Msg) (⟨pm, py, pa, ps, px⟩ : Hg.Post Msg) = false := by simp [Hg.Chan.anew]
        rw [e1, e2, e3]
        exact h
      | false =>
        by_cases hs : 0 < ps
        · have hs2 := hs
          have h := hearE_ft C base v cm cf cl cmet true cw pm py pa ps px w hC hp hy hs
          have e1 : Hg.Chan.hears (⟨cm, pm, cf, cw, cl, cmet, false⟩ : Hg.Chan Msg) (⟨pm, py, pa, ps, px⟩ : Hg.Post Msg) = ⟨cm, pm, cf, cw, cl, cmet, true⟩ := by simp [Hg.Chan.hears, Hg.Chan.meets, Hg.Chan.anew, hy]
          have e2 : Hg.Chan.hearsText (⟨cm, pm, cf, cw, cl, cmet, false⟩ : Hg.Chan Msg) (⟨pm, py, pa, ps, px⟩ : Hg.Post Msg) = none := by simp [Hg.Chan.meets, Hg.Chan.hearsText, hy]
          have e3 : Hg.Chan.anew (⟨cm, pm, cf, cw, cl, cmet, false⟩ : Hg.Chan Msg) (⟨pm, py, pa, ps, px⟩ : Hg.Post Msg) = false := by simp [Hg.Chan.anew]
          rw [e1, e2, e3]
          exact h
        · have hs2 := hs
          have h := hearE_ff C base v cm cf cl cmet true cw pm py pa ps px w hC hp hy hs
          have e1 : Hg.Chan.hears (⟨cm, pm, cf, cw, cl, cmet, false⟩ : Hg.Chan Msg) (⟨pm, py, pa, ps, px⟩ : Hg.Post Msg) = ⟨cm, pm, cf, cw, cl, cmet, true⟩ := by simp [Hg.Chan.hears, Hg.Chan.meets, Hg.Chan.anew, hy]
          have e2 : Hg.Chan.hearsText (⟨cm, pm, cf, cw, cl, cmet, false⟩ : Hg.Chan Msg) (⟨pm, py, pa, ps, px⟩ : Hg.Post Msg) = none := by simp [Hg.Chan.meets, Hg.Chan.hearsText, hy]
          have e3 : Hg.Chan.anew (⟨cm, pm, cf, cw, cl, cmet, false⟩ : Hg.Chan Msg) (⟨pm, py, pa, ps, px⟩ : Hg.Post Msg) = false := by simp [Hg.Chan.anew]
          rw [e1, e2, e3]
          exact h
end Go.Proofs.Yteajdkneiejlaaa

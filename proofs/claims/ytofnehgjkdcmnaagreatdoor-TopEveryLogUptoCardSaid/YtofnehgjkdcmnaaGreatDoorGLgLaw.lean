/- The walk of TopEveryLog. (made by a small program) -/
import Derived.Deep.CutBlock
import Derived.Deep.CutRange
import Derived.Deep.LoopGhost
import Derived.Test.YtofnehgjkdcmnaaGreatDoorGLgLaw1
namespace Go.Proofs.YtofnehgjkdcmnaaGreatDoor
open Go.RowKit Hg

/-- a goal at which a walk is to stand still -/
def Stop (p : Prop) : Prop := p
theorem stop_here {p : Prop} (h : Stop p) : p := h
set_option maxHeartbeats 2000000 in
set_option maxRecDepth 100000 in
theorem logLaw_any (T : Nat → Nat) (W : World) (A0 A1 : Option Addr) (n0 c0 n1 c1 : Nat) (xs : List HM) (bs : List Bool) (die keep : Int) (hE : Env T W) (h6 : 6 ≤ W.heap.size) (hX : Rd W 6 A0 n0 (xs.flatMap msgC)) (ix : ∀ x ∈ xs, MsgIn W x.m x.s1 x.s2 x.s3) (lx : xs.length = n0)
    (hB : Rd W 1 A1 n1 (bs.map .bool)) (lb : bs.length = n1) (hs : n0 + n1 ≤ 1048576) (hdie : I64 die) :
    Calls Tryz.prog 3 #[.slice A0 n0 c0, .slice A1 n1 c1, i64 die, i64 keep] W fun e w' => e = .returned (.bool true) ∧ Below W.heap.size W w' := by
  have HE := Lib.hid hE
  have H6 := Lib.hid h6
  have HX := Lib.hid (And.intro hX (And.intro ix lx))
  have HB := Lib.hid (And.intro hB lb)
  have HS := Lib.hid hs
  have HDIE := Lib.hid hdie
  clear hE h6 hX ix lx hB lb hs hdie
  go_enter Tryz.func3, Tryz.ntmps3
  go_wp2_with fail
  (with_reducible refine (diskNew_any _).mono ?_)
  rintro e w1 ⟨d, M, rfl, hd1, hg1, hdl, hml⟩
  have O1 := Lib.hid (open_empty (T := T) (B := W.heap.size) 4611686018427387904 (HE.out.new_ hg1) hd1 ⟨hdl, hml, hg1.size⟩ ⟨Nat.le_trans H6.out hdl, Nat.le_trans H6.out hml⟩)
  have HG1 := Lib.hid hg1
  clear hd1 hg1 hdl hml
  go_wp2_with fail
  (with_reducible refine O1.out.mono ?_)
  rintro e w2 ⟨L, v, u, D, gs, g, rfl, hl2, hdd, hrm, hown, hk, hb⟩
  have HL2 := Lib.hid (And.intro hl2 (And.intro hdd hrm))
  have HBL2 : Hid (Below W.heap.size W w2) := (HG1.out.below).trans hb
  have F3 := Lib.hid (cut_any d M die D w2 hl2.st.disk (by have := HDIE.out; unfold I64 at this; omega))
  clear hl2 hdd hrm hown hk hb O1
  go_wp2_with fail
  (with_reducible refine F3.out.mono ?_)
  rintro e w3 ⟨⟨uu, rfl⟩, hd3, hg3⟩
  have HL1 : Hid (L1 T W w3 L d M xs (.slice none 0 0) 0 0 []) := ⟨⟨v, _, gs, g, _, HL2.out.1.cut die hd3 hg3⟩, ⟨by simp, .inl ⟨rfl, rfl⟩⟩, by simp, Nat.zero_le _, HBL2.out.trans (hg3.below' (by intro k hk; simp only [List.mem_singleton] at hk; rw [hk]; exact HL2.out.1.low.2.1) HBL2.out.size)⟩
  clear hd3 hg3 F3 HL2 HBL2
  go_upto_block 0 with fail
  go_cut [13, 14] from 15 to 88 (fun va sn wx => ∃ (n : Nat) (ys : List HM), sn = i64 (n : Int) ∧ Hid (L1 T W wx L d M xs va n n0 ys))
  case first =>
    go_wp2_with fail
    go_loopg [13, 14, 15] n0 (fun gk va sn si wr => ∃ (i n : Nat) (ys : List HM), gk + i = n0 ∧ si = i64 (i : Int) ∧ sn = i64 (n : Int) ∧ Hid (L1 T W wr L d M xs va n i ys))
    case atStart => exact ⟨0, 0, [], rfl, rfl, rfl, HL1.out⟩
    case round =>
      obtain ⟨i, n, ys, hgk, rfl, rfl, HL⟩ := hrel
      rcases Nat.lt_or_ge i n0 with hlt | hge
      · have b0 : (0 : Int) ≤ (i : Int) := by omega
        have b1 : (i : Int) < (n0 : Int) := by omega
        have hil : i < xs.length := by have := HX.out.2.2; omega
        have hi20 : i ≤ 1048576 := by have := HS.out; omega
        obtain ⟨ad, hA, hel⟩ := rd_elem (size := 6) (enc := msgC) (fun _ => rfl) HX.out.1 HX.out.2.2 (List.getElem?_eq_getElem hil)
        have hin := HX.out.2.1 _ (List.getElem_mem hil)
        have HIL := Lib.hid hil
        have HI20 := Lib.hid hi20
        have HGK := Lib.hid hgk
        have hkk : gk - 1 + (i + 1) = n0 := by omega
        have hkm : gk - 1 < gk := by omega
        have HKK := Lib.hid hkk
        have e9 : (i : Int) ≤ 1048576 := by omega
        have E9 := Lib.hid e9
        clear e9
        generalize xs[i]'hil = x at hel hin
        clear hil hi20 hgk hkk hlt
        have HMI := Lib.hid hin
        have hel2 : ∀ wz, Below W.heap.size W wz → ∀ j u, (msgC x)[j]? = some u → wz.cell? ((ad.add (i * 6)).add j) = some u := fun wz hz j u hu => by
          have h1 := hel j u hu
          rw [hz.cell (cell_lt h1)]; exact h1
        have HEL := Lib.hid hel2
        clear hel hel2 hin
        have hcells : ∀ wz, Below W.heap.size W wz → wz.cell? (ad.add (i * 6)) = some (i64 x.m.kind) ∧ wz.cell? ⟨(ad.add (i * 6)).block, (ad.add (i * 6)).off + 1, none⟩ = some (i64 x.m.t) ∧ wz.cell? ⟨(ad.add (i * 6)).block, (ad.add (i * 6)).off + 2, none⟩ = some (i64 x.m.n) ∧ wz.cell? ⟨(ad.add (i * 6)).block, (ad.add (i * 6)).off + 3, none⟩ = some (.slice x.s1.1 x.m.cmds.length x.s1.2) ∧ wz.cell? ⟨(ad.add (i * 6)).block, (ad.add (i * 6)).off + 4, none⟩ = some (.slice x.s2.1 x.m.buns.length x.s2.2) ∧ wz.cell? ⟨(ad.add (i * 6)).block, (ad.add (i * 6)).off + 5, none⟩ = some (.slice x.s3.1 x.m.ids.length x.s3.2) := fun wz hz =>
          ⟨by have := HEL.out wz hz 0 _ rfl; simpa [Addr.add] using this, HEL.out wz hz 1 _ rfl, HEL.out wz hz 2 _ rfl, HEL.out wz hz 3 _ rfl, HEL.out wz hz 4 _ rfl, HEL.out wz hz 5 _ rfl⟩
        have HCS := Lib.hid hcells
        clear hcells
        subst hA
        obtain ⟨k0, k1, k2, k3, k4, k5⟩ := HCS.out wr HL.out.bel
        cases hck : chkMsg x.m with
        | false =>
          have FE := Lib.hid (enc_bad x.m x.s1 x.s2 x.s3 wr (HMI.out.new_ (Chg.of_below HL.out.bel)) hck)
          clear hck
          go_wp2_with fail
          (with_reducible refine FE.out.mono ?_)
          rintro e w5 ⟨rfl, hg5⟩
          have HN : Hid (∃ ys', L1 T W w5 L d M xs u13 n (i + 1) ys') := ⟨ys, (HL.out.new_ hg5).skip⟩
          clear hg5 k0 k1 k2 k3 k4 k5 FE
          obtain ⟨ys', hN⟩ := HN.out
          have e9 := E9.out
          have HN2 := Lib.hid hN
          clear hN HN
          rcases Nat.lt_or_ge i n1 with hsl | hsl
          · have s0 : (i : Int) < (n1 : Int) := by omega
            obtain ⟨ad1, u1, hA1, hu1, hc1⟩ := HB.out.1.at_ hsl
            have hbl : i < bs.length := by have := HB.out.2; omega
            obtain rfl : u1 = .bool (bs[i]'hbl) := by
              rw [List.getElem?_map, List.getElem?_eq_getElem hbl] at hu1
              simpa using hu1.symm
            generalize bs[i]'hbl = bb at hc1 hu1
            have hc2 : w5.cell? (ad1.add i) = some (.bool bb) := by rw [HN2.out.bel.cell (cell_lt hc1)]; exact hc1
            subst hA1
            have s1 : decide (i < n1) = true := by simpa using hsl
            clear hc1 hu1 hbl hsl
            cases bb with
            | false =>
              go_wp2_with fail
              go_roundg (gk - 1)
              case rel => exact ⟨i + 1, n, ys', HKK.out, rfl, rfl, HN2.out⟩
              case measure => exact hkm
            | true =>
              obtain ⟨c9, hc9⟩ := HN2.out.sync
              have FS := Lib.hid hc9
              clear hc9
              go_wp2_with fail
              (with_reducible refine FS.out.mono ?_)
              rintro e w9 ⟨rfl, hl9⟩
              by_cases h9 : c9 = 0
              · subst h9
                obtain ⟨B9, q9, hva⟩ := row_form hl9.row
                have HL9 := Lib.hid hl9
                have HVA := Lib.hid hva
                clear hl9 hva hc2
                rw [HVA.out] at HL9 ⊢
                go_wp2_with fail
                go_roundg (gk - 1)
                case rel => exact ⟨i + 1, ys'.length, ys', HKK.out, rfl, rfl, HL9.out⟩
                case measure => exact hkm
              · have h99 : (c9 == 0) = false := by simpa using h9
                have HL9 := Lib.hid hl9
                rw [if_neg h9] at HL9
                clear hl9 h9 hc2
                go_wp2_with fail
                go_roundg (gk - 1)
                case rel => exact ⟨i + 1, n, ys', HKK.out, rfl, rfl, HL9.out⟩
                case measure => exact hkm
          · have s0 : ¬ ((i : Int) < (n1 : Int)) := by omega
            have s1 : decide (i < n1) = false := by simpa using hsl
            clear hsl
            go_wp2_with fail
            go_roundg (gk - 1)
            case rel => exact ⟨i + 1, n, ys', HKK.out, rfl, rfl, HN2.out⟩
            case measure => exact hkm
        | true =>
          have FE := Lib.hid (enc_any x.m x.s1 x.s2 x.s3 wr (HMI.out.new_ (Chg.of_below HL.out.bel)) hck)
          have HCK := Lib.hid hck
          clear hck
          go_wp2_with fail
          (with_reducible refine FE.out.mono ?_)
          rintro e w5 ⟨rfl, hg5⟩
          have HL5 := Lib.hid (HL.out.new_ hg5)
          clear hg5 k0 k1 k2 k3 k4 k5 FE
          obtain ⟨s, hs⟩ : ∃ s, s = eMsg x.m := ⟨_, rfl⟩
          rw [← hs]
          have HSE := Lib.hid hs
          clear hs
          have HL6 := Lib.hid (HL5.out.new_ ((Chg.refl [] w5).alloc (.cells #[strV s] 9)))
          have hcell : (w5.alloc (.cells #[strV s] 9)).cell? ⟨w5.heap.size, 0, none⟩ = some (strV s) := (Blk.new w5 9 #[strV s]).cell 0
          have HCELL := Lib.hid hcell
          clear hcell
          rcases Nat.lt_or_ge 65536 s.length with hlong | hshort
          · have FA := Lib.hid (walAppendLong_any L w5.heap.size 1 s _ HCELL.out hlong)
            clear hlong
            go_wp2_with fail
            (with_reducible refine FA.out.mono ?_)
            rintro e w7 ⟨rfl, hw7⟩
            have HN : Hid (∃ ys', L1 T W w7 L d M xs u13 n (i + 1) ys') := ⟨ys, hw7 ▸ HL6.out.skip⟩
            clear hw7 FA
            obtain ⟨ys', hN⟩ := HN.out
            have e9 := E9.out
            have HN2 := Lib.hid hN
            clear hN HN
            rcases Nat.lt_or_ge i n1 with hsl | hsl
            · have s0 : (i : Int) < (n1 : Int) := by omega
              obtain ⟨ad1, u1, hA1, hu1, hc1⟩ := HB.out.1.at_ hsl
              have hbl : i < bs.length := by have := HB.out.2; omega
              obtain rfl : u1 = .bool (bs[i]'hbl) := by
                rw [List.getElem?_map, List.getElem?_eq_getElem hbl] at hu1
                simpa using hu1.symm
              generalize bs[i]'hbl = bb at hc1 hu1
              have hc2 : w7.cell? (ad1.add i) = some (.bool bb) := by rw [HN2.out.bel.cell (cell_lt hc1)]; exact hc1
              subst hA1
              have s1 : decide (i < n1) = true := by simpa using hsl
              clear hc1 hu1 hbl hsl
              cases bb with
              | false =>
                go_wp2_with fail
                go_roundg (gk - 1)
                case rel => exact ⟨i + 1, n, ys', HKK.out, rfl, rfl, HN2.out⟩
                case measure => exact hkm
              | true =>
                obtain ⟨c9, hc9⟩ := HN2.out.sync
                have FS := Lib.hid hc9
                clear hc9
                go_wp2_with fail
                (with_reducible refine FS.out.mono ?_)
                rintro e w9 ⟨rfl, hl9⟩
                by_cases h9 : c9 = 0
                · subst h9
                  obtain ⟨B9, q9, hva⟩ := row_form hl9.row
                  have HL9 := Lib.hid hl9
                  have HVA := Lib.hid hva
                  clear hl9 hva hc2
                  rw [HVA.out] at HL9 ⊢
                  go_wp2_with fail
                  go_roundg (gk - 1)
                  case rel => exact ⟨i + 1, ys'.length, ys', HKK.out, rfl, rfl, HL9.out⟩
                  case measure => exact hkm
                · have h99 : (c9 == 0) = false := by simpa using h9
                  have HL9 := Lib.hid hl9
                  rw [if_neg h9] at HL9
                  clear hl9 h9 hc2
                  go_wp2_with fail
                  go_roundg (gk - 1)
                  case rel => exact ⟨i + 1, n, ys', HKK.out, rfl, rfl, HL9.out⟩
                  case measure => exact hkm
            · have s0 : ¬ ((i : Int) < (n1 : Int)) := by omega
              have s1 : decide (i < n1) = false := by simpa using hsl
              clear hsl
              go_wp2_with fail
              go_roundg (gk - 1)
              case rel => exact ⟨i + 1, n, ys', HKK.out, rfl, rfl, HN2.out⟩
              case measure => exact hkm
          · obtain ⟨c, hc⟩ := HL6.out.append HI20.out s hshort
            have FA := Lib.hid (hc w5.heap.size 1 HCELL.out)
            clear hc hshort
            go_wp2_with fail
            (with_reducible refine FA.out.mono ?_)
            rintro e w7 ⟨rfl, hlog, hkp, hbl⟩
            by_cases h0 : c = 0
            · subst h0
              have HL7 : Hid ((∃ v D gs g x, LogSt T W.heap.size w7 L d M v D gs g (ys.map encY ++ [s]) n x) ∧ w7.ownsRow W.heap.size 38 6 u13 ys.length (ys.flatMap msgC) ∧ Below W.heap.size W w7) := ⟨by simpa using hlog, hkp _ _ _ _ _ _ (.inl rfl) HL6.out.row, HL6.out.bel.trans hbl⟩
              clear hlog hkp hbl FA
              obtain ⟨k0, k1, k2, k3, k4, k5⟩ := HCS.out w7 HL7.out.2.2
              obtain ⟨i0, hi, hz0, hz1, hz2⟩ := info_parts infoMsg6
              have hrow := HL7.out.2.1
              have hcnt := HL6.out.cnt
              have hi20 := HI20.out
              have hbs := HL7.out.2.2.size
              go_wp2_with (at_builtin; refine wpList_append_own_at _ rfl _ _ 22 rfl W.heap.size 38 i0 _ 6 96 Tryz.underlying22 hi hz0 hz1 hz2 rfl (by decide) _ _ _ rfl (hrow.alloc _) ⟨w7.heap.size, 0, none⟩ 1 1 (msgC x) rfl rfl (World.news_of_block (w := w7.alloc (.cells #[i64 x.m.kind, i64 x.m.t, i64 x.m.n, .slice x.s1.1 x.m.cmds.length x.s1.2, .slice x.s2.1 x.m.buns.length x.s2.2, .slice x.s3.1 x.m.ids.length x.s3.2] 38)) (Blk.new w7 38 #[i64 x.m.kind, i64 x.m.t, i64 x.m.n, .slice x.s1.1 x.m.cmds.length x.s1.2, .slice x.s2.1 x.m.buns.length x.s2.2, .slice x.s3.1 x.m.ids.length x.s3.2])) (by simp [Value.oneCell']) (by unfold maxLen; omega) (by omega) (by simp; omega) ?_; intro v' w8 hown' hg8 hnil8 hat8; go_frame; refine stop_here ?_)
              have HN : Hid (∃ ys', L1 T W w8 L d M xs v' n (i + 1) ys') := ⟨ys ++ [x], L1.push H6.out HL7.out.1 HL7.out.2.1 HL7.out.2.2 HL6.out.good HL6.out.cnt HMI.out HCK.out HSE.out hown' hg8⟩
              clear hown' hg8 hnil8 hat8 hrow hcnt hi20 hbs k0 k1 k2 k3 k4 k5 hi hz0 hz1 hz2
              unfold Stop
              obtain ⟨ys', hN⟩ := HN.out
              have e9 := E9.out
              have HN2 := Lib.hid hN
              clear hN HN
              rcases Nat.lt_or_ge i n1 with hsl | hsl
              · have s0 : (i : Int) < (n1 : Int) := by omega
                obtain ⟨ad1, u1, hA1, hu1, hc1⟩ := HB.out.1.at_ hsl
                have hbl : i < bs.length := by have := HB.out.2; omega
                obtain rfl : u1 = .bool (bs[i]'hbl) := by
                  rw [List.getElem?_map, List.getElem?_eq_getElem hbl] at hu1
                  simpa using hu1.symm
                generalize bs[i]'hbl = bb at hc1 hu1
                have hc2 : w8.cell? (ad1.add i) = some (.bool bb) := by rw [HN2.out.bel.cell (cell_lt hc1)]; exact hc1
                subst hA1
                have s1 : decide (i < n1) = true := by simpa using hsl
                clear hc1 hu1 hbl hsl
                cases bb with
                | false =>
                  go_wp2_with fail
                  go_roundg (gk - 1)
                  case rel => exact ⟨i + 1, n, ys', HKK.out, rfl, rfl, HN2.out⟩
                  case measure => exact hkm
                | true =>
                  obtain ⟨c9, hc9⟩ := HN2.out.sync
                  have FS := Lib.hid hc9
                  clear hc9
                  go_wp2_with fail
                  (with_reducible refine FS.out.mono ?_)
                  rintro e w9 ⟨rfl, hl9⟩
                  by_cases h9 : c9 = 0
                  · subst h9
                    obtain ⟨B9, q9, hva⟩ := row_form hl9.row
                    have HL9 := Lib.hid hl9
                    have HVA := Lib.hid hva
                    clear hl9 hva hc2
                    rw [HVA.out] at HL9 ⊢
                    go_wp2_with fail
                    go_roundg (gk - 1)
                    case rel => exact ⟨i + 1, ys'.length, ys', HKK.out, rfl, rfl, HL9.out⟩
                    case measure => exact hkm
                  · have h99 : (c9 == 0) = false := by simpa using h9
                    have HL9 := Lib.hid hl9
                    rw [if_neg h9] at HL9
                    clear hl9 h9 hc2
                    go_wp2_with fail
                    go_roundg (gk - 1)
                    case rel => exact ⟨i + 1, n, ys', HKK.out, rfl, rfl, HL9.out⟩
                    case measure => exact hkm
              · have s0 : ¬ ((i : Int) < (n1 : Int)) := by omega
                have s1 : decide (i < n1) = false := by simpa using hsl
                clear hsl
                go_wp2_with fail
                go_roundg (gk - 1)
                case rel => exact ⟨i + 1, n, ys', HKK.out, rfl, rfl, HN2.out⟩
                case measure => exact hkm
            · have h1 : (c == 0) = false := by simpa using h0
              have HN : Hid (∃ ys', L1 T W w7 L d M xs u13 n (i + 1) ys') := ⟨ys, ⟨by rw [if_neg h0] at hlog; exact hlog, hkp _ _ _ _ _ _ (.inl rfl) HL6.out.row, HL6.out.good, Nat.le_succ_of_le HL6.out.cnt, HL6.out.bel.trans hbl⟩⟩
              clear hlog hkp hbl FA h0
              obtain ⟨ys', hN⟩ := HN.out
              have e9 := E9.out
              have HN2 := Lib.hid hN
              clear hN HN
              rcases Nat.lt_or_ge i n1 with hsl | hsl
              · have s0 : (i : Int) < (n1 : Int) := by omega
                obtain ⟨ad1, u1, hA1, hu1, hc1⟩ := HB.out.1.at_ hsl
                have hbl : i < bs.length := by have := HB.out.2; omega
                obtain rfl : u1 = .bool (bs[i]'hbl) := by
                  rw [List.getElem?_map, List.getElem?_eq_getElem hbl] at hu1
                  simpa using hu1.symm
                generalize bs[i]'hbl = bb at hc1 hu1
                have hc2 : w7.cell? (ad1.add i) = some (.bool bb) := by rw [HN2.out.bel.cell (cell_lt hc1)]; exact hc1
                subst hA1
                have s1 : decide (i < n1) = true := by simpa using hsl
                clear hc1 hu1 hbl hsl
                cases bb with
                | false =>
                  go_wp2_with fail
                  go_roundg (gk - 1)
                  case rel => exact ⟨i + 1, n, ys', HKK.out, rfl, rfl, HN2.out⟩
                  case measure => exact hkm
                | true =>
                  obtain ⟨c9, hc9⟩ := HN2.out.sync
                  have FS := Lib.hid hc9
                  clear hc9
                  go_wp2_with fail
                  (with_reducible refine FS.out.mono ?_)
                  rintro e w9 ⟨rfl, hl9⟩
                  by_cases h9 : c9 = 0
                  · subst h9
                    obtain ⟨B9, q9, hva⟩ := row_form hl9.row
                    have HL9 := Lib.hid hl9
                    have HVA := Lib.hid hva
                    clear hl9 hva hc2
                    rw [HVA.out] at HL9 ⊢
                    go_wp2_with fail
                    go_roundg (gk - 1)
                    case rel => exact ⟨i + 1, ys'.length, ys', HKK.out, rfl, rfl, HL9.out⟩
                    case measure => exact hkm
                  · have h99 : (c9 == 0) = false := by simpa using h9
                    have HL9 := Lib.hid hl9
                    rw [if_neg h9] at HL9
                    clear hl9 h9 hc2
                    go_wp2_with fail
                    go_roundg (gk - 1)
                    case rel => exact ⟨i + 1, n, ys', HKK.out, rfl, rfl, HL9.out⟩
                    case measure => exact hkm
              · have s0 : ¬ ((i : Int) < (n1 : Int)) := by omega
                have s1 : decide (i < n1) = false := by simpa using hsl
                clear hsl
                go_wp2_with fail
                go_roundg (gk - 1)
                case rel => exact ⟨i + 1, n, ys', HKK.out, rfl, rfl, HN2.out⟩
                case measure => exact hkm
      · obtain rfl : i = n0 := by omega
        have b1 : ¬ ((i : Int) < (i : Int)) := by omega
        clear hge hgk
        go_wp2_with fail
        go_meet
        exact ⟨n, ys, rfl, HL.out⟩
  case rest =>
    obtain ⟨n, ys, rfl, HLR⟩ := hcut
    clear HL1
    obtain ⟨v1, D1, gs1, g1, x1, hl1⟩ := HLR.out.log
    obtain ⟨Av, qv, rfl⟩ := row_form HLR.out.row
    have FC := Lib.hid (crash_any d M keep D1 wc hl1.st.disk (by have := hl1.few; omega))
    have HLL := Lib.hid hl1
    clear hl1
    go_wp2_with fail
    (with_reducible refine FC.out.mono ?_)
    rintro e w4 ⟨rfl, hd4, hg4⟩
    have hE4 : Env T w4 := HLL.out.st.env.chg hg4 (by have := HLL.out.st.lo; simp; omega) (by have := HLL.out.st.lo; simp; omega)
    have hB4 : Below W.heap.size W w4 := HLR.out.bel.trans (disk_below ⟨HLL.out.low.2.1, HLL.out.low.2.2.1, HLR.out.bel.size⟩ hg4)
    obtain ⟨ts, hpre, hnle, hO⟩ := open_crashed keep.toNat 4611686018427387904 HLL.out hE4 hd4 hB4.size
    have HP := Lib.hid (And.intro hpre hnle)
    have HO := Lib.hid hO
    have HR4 := Lib.hid (disk_keep HLL.out.st.disk hg4 _ _ _ _ _ _ (.inl rfl) HLR.out.row)
    have HB4 := Lib.hid hB4
    have hlen : n ≤ ts.length ∧ ts.length ≤ ys.length := ⟨hnle, by have := hpre.length_le; simpa using this⟩
    have HLEN := Lib.hid hlen
    clear hd4 hg4 hE4 hB4 hpre hnle hO FC hlen
    go_wp2_with fail
    (with_reducible refine HO.out.mono ?_)
    rintro e w5 ⟨L2, v2, u2, D2, gs2, g2, rfl, hl2, hdd2, hrm2, hown2, hk2, hb2⟩
    obtain ⟨A2, q2, rfl⟩ := row_form hown2
    have HL2 := Lib.hid (And.intro hl2 (And.intro hdd2 hrm2))
    have HOWN2 := Lib.hid hown2
    have HR5 := Lib.hid (hk2 _ _ _ _ _ _ (.inl rfl) HR4.out)
    have HB5 := Lib.hid (HB4.out.trans hb2)
    have t1 : ¬ ((ts.length : Int) < (n : Int)) := by have := HLEN.out.1; omega
    have t2 : ¬ ((ys.length : Int) < (ts.length : Int)) := by have := HLEN.out.2; omega
    have t3 : decide (ts.length < n) = false := by have := HLEN.out.1; simpa using this
    have t4 : decide (ys.length < ts.length) = false := by have := HLEN.out.2; simpa using this
    clear hl2 hdd2 hrm2 hown2 hk2 hb2 HO HR4 HB4
    go_upto_block 2 with fail
    go_cut [] from 19 to 137 (fun wx => Hid (Chg [] w5 wx))
    case first =>
      go_wp2_with fail
      go_loopg [19] ts.length (fun gk si wr => ∃ i : Nat, gk + i = ts.length ∧ si = i64 (i : Int) ∧ Hid (Chg [] w5 wr))
      case atStart => exact ⟨0, rfl, rfl, Chg.refl _ _⟩
      case round =>
        obtain ⟨i, hgk, rfl, HC⟩ := hrel
        rcases Nat.lt_or_ge i ts.length with hlt | hge
        · have b0 : (0 : Int) ≤ (i : Int) := by omega
          have b1 : (i : Int) < (ts.length : Int) := by omega
          have hly : i < ys.length := by have := HLEN.out.2; omega
          have b2 : (i : Int) < (ys.length : Int) := by omega
          have hkk : gk - 1 + (i + 1) = ts.length := by omega
          have hkm : gk - 1 < gk := by omega
          have HKK := Lib.hid hkk
          obtain ⟨gt, qt, ht1, _, htl⟩ := HOWN2.out.form (by omega)
          have hct := HOWN2.out
          rw [ht1] at hct
          have hts : ts[i]'hlt = eMsg (ys[i]'hly).m := by
            have h1 := HP.out.1.getElem hlt
            rw [h1]; simp
          have ct : wr.cell? ⟨gt, i, none⟩ = some (strV (eMsg (ys[i]'hly).m)) := by
            rw [HC.out.cell (p := ⟨gt, i, none⟩) htl (by simp), hct.cellAt i (by omega), List.getElem?_map, List.getElem?_eq_getElem hlt, hts]; rfl
          obtain ⟨gv, qw, hv1, _, hvl⟩ := HR5.out.form (by omega)
          have hel : ∀ wz, Chg [] w5 wz → ∀ j u, (msgC (ys[i]'hly))[j]? = some u → wz.cell? ⟨gv, i * 6 + j, none⟩ = some u := fun wz hz j u hu => by
            have h1 := HR5.out
            rw [hv1] at h1
            obtain ⟨ad, hA, hc⟩ := rd_elem (size := 6) (enc := msgC) (fun _ => rfl) (Rd.of_own (own_chg h1 hz (by simp))) rfl (List.getElem?_eq_getElem hly)
            have hA2 : ad = ⟨gv, 0, none⟩ := by injection hA with hA; exact hA.symm
            subst hA2
            have := hc j u hu
            rw [add_add] at this
            have e : (⟨gv, 0, none⟩ : Addr).add (i * 6 + j) = ⟨gv, i * 6 + j, none⟩ := by unfold Addr.add; split <;> rename_i he <;> simp [he]
            rw [e] at this; exact this
          have hgood := HLR.out.good _ (List.getElem_mem hly)
          have HEL := Lib.hid hel
          obtain ⟨hta, htq⟩ : A2 = some ⟨gt, 0, none⟩ ∧ qt = q2 := by injection ht1 with e1 _ e3; exact ⟨e1, e3.symm⟩
          obtain ⟨hva, hvq⟩ : Av = some ⟨gv, 0, none⟩ ∧ qw = qv := by injection hv1 with e1 _ e3; exact ⟨e1, e3.symm⟩
          clear ht1 hv1
          clear hel hct hts hgk hlt hkk
          generalize ys[i]'hly = y at ct HEL hgood
          clear hly
          subst hta htq hva hvq
          have HGD := Lib.hid hgood
          clear hgood
          have FD := Lib.hid (dec_any y.m wr HGD.out.2)
          go_wp2_with fail
          (with_reducible refine FD.out.mono ?_)
          rintro e w6 ⟨s1, s2, s3, rfl, hm6, hg6, _⟩
          have HM6 := Lib.hid (And.intro hm6 (HC.out.trans hg6))
          clear hm6 hg6 ct FD
          go_wp2_with fail
          have hgA := (Chg.refl [] w6).alloc (.cells #[i64 y.m.kind, i64 y.m.t, i64 y.m.n, .slice s1.1 y.m.cmds.length s1.2, .slice s2.1 y.m.buns.length s2.2, .slice s3.1 y.m.ids.length s3.2] 38)
          have hB7 := Blk.new w6 38 #[i64 y.m.kind, i64 y.m.t, i64 y.m.n, .slice s1.1 y.m.cmds.length s1.2, .slice s2.1 y.m.buns.length s2.2, .slice s3.1 y.m.ids.length s3.2]
          have HM7 := Lib.hid (And.intro (HM6.out.1.new_ hgA) (HM6.out.2.trans hgA))
          have HB7 := Lib.hid hB7
          clear hgA hB7 HM6
          change Code.wp _ _ _ _ (w6.alloc (.cells #[i64 y.m.kind, i64 y.m.t, i64 y.m.n, .slice s1.1 y.m.cmds.length s1.2, .slice s2.1 y.m.buns.length s2.2, .slice s3.1 y.m.ids.length s3.2] 38))
          generalize w6.alloc (.cells #[i64 y.m.kind, i64 y.m.t, i64 y.m.n, .slice s1.1 y.m.cmds.length s1.2, .slice s2.1 y.m.buns.length s2.2, .slice s3.1 y.m.ids.length s3.2] 38) = w7 at HM7 HB7 ⊢
          generalize w6.heap.size = F at HB7 ⊢
          have q0 : w7.cell? ⟨F, 0, none⟩ = some (i64 y.m.kind) := HB7.out.cell 0
          have q1 : w7.cell? ⟨F, 1, none⟩ = some (i64 y.m.t) := HB7.out.cell 1
          have q2 : w7.cell? ⟨F, 2, none⟩ = some (i64 y.m.n) := HB7.out.cell 2
          have q3 : w7.cell? ⟨F, 3, none⟩ = some (.slice s1.1 y.m.cmds.length s1.2) := HB7.out.cell 3
          have q4 : w7.cell? ⟨F, 4, none⟩ = some (.slice s2.1 y.m.buns.length s2.2) := HB7.out.cell 4
          have q5 : w7.cell? ⟨F, 5, none⟩ = some (.slice s3.1 y.m.ids.length s3.2) := HB7.out.cell 5
          have m0 : w7.cell? ⟨gv, i * 6, none⟩ = some (i64 y.m.kind) := HEL.out _ HM7.out.2 0 _ rfl
          have m1 : w7.cell? ⟨gv, i * 6 + 1, none⟩ = some (i64 y.m.t) := HEL.out _ HM7.out.2 1 _ rfl
          have m2 : w7.cell? ⟨gv, i * 6 + 2, none⟩ = some (i64 y.m.n) := HEL.out _ HM7.out.2 2 _ rfl
          have m3 : w7.cell? ⟨gv, i * 6 + 3, none⟩ = some (.slice y.s1.1 y.m.cmds.length y.s1.2) := HEL.out _ HM7.out.2 3 _ rfl
          have m4 : w7.cell? ⟨gv, i * 6 + 4, none⟩ = some (.slice y.s2.1 y.m.buns.length y.s2.2) := HEL.out _ HM7.out.2 4 _ rfl
          have m5 : w7.cell? ⟨gv, i * 6 + 5, none⟩ = some (.slice y.s3.1 y.m.ids.length y.s3.2) := HEL.out _ HM7.out.2 5 _ rfl
          have FS := Lib.hid (same_any y.m s1 s2 s3 y.s1 y.s2 y.s3 w7.drew (HM7.out.1.new_ (Chg.refl [] w7).drew) (HGD.out.1.new_ ((Chg.of_below HB5.out).trans (HM7.out.2.trans (Chg.refl [] w7).drew))))
          refine wp_region_still_tail 8 (by kernel_rfl) (by kernel_rfl) ?_
          simp only [List.take_succ_cons, List.take_zero, List.drop_succ_cons, List.drop_zero]
          repeat (with_reducible refine wpStill_step ?_; intro K hK; go_simp; with_reducible refine hK _ ?_; clear hK K)
          with_reducible refine wpStill_nil ?_
          change wpList _ _ _ _ _ w7.drew
          have HC8 : Hid (Chg [] w5 w7.drew) := HM7.out.2.drew
          clear q0 q1 q2 q3 q4 q5 m0 m1 m2 m3 m4 m5 HB7
          generalize w7.drew = w8 at FS HC8 ⊢
          go_wp2_with fail
          (with_reducible refine FS.out.mono ?_)
          rintro e w9 ⟨rfl, hg9⟩
          have HC9 := Lib.hid (HC8.out.trans hg9)
          clear hg9 FS
          have e9 : (i : Int) ≤ 1048576 := by have := HLR.out.cnt; have := HS.out; omega
          go_wp2_with fail
          go_roundg (gk - 1)
          case rel => exact ⟨i + 1, HKK.out, rfl, HC9.out⟩
          case measure => exact hkm
        · obtain rfl : i = ts.length := by omega
          have b1 : ¬ ((ts.length : Int) < (ts.length : Int)) := by omega
          clear hge hgk
          go_wp2_with fail
          go_meet
          exact HC.out
    case rest =>
      have HC := hcut
      clear hcut
      have HL3 := Lib.hid (HL2.out.1.new_ HC.out)
      have FF := Lib.hid (files_any d M D2 _ HL3.out.st.disk (by have := HL3.out.few; omega))
      go_wp2_with fail
      (with_reducible refine FF.out.mono ?_)
      rintro e w6 ⟨vf, rfl, hrf, hgf⟩
      obtain ⟨Af, qf, rfl⟩ := row_form hrf
      have HL6 := Lib.hid (HL3.out.new_ hgf)
      have HC6 := Lib.hid (HC.out.trans hgf)
      clear hrf hgf FF t1 t2 t3 t4
      rcases Nat.lt_or_ge D2.files.length 64 with hfew | hfull
      · have l1 : ¬ ((64 : Int) ≤ (D2.files.length : Int)) := by omega
        have HFEW := Lib.hid hfew
        have FE := Lib.hid (fun w => want_enc w)
        have hsl := want_len
        generalize eMsg wantMsg = s at FE hsl
        have HSL := Lib.hid hsl
        have hts20 : ts.length ≤ 1048576 := by have := HLEN.out.2; have := HLR.out.cnt; have := HS.out; omega
        clear hfew hsl
        go_wp2_with fail
        (with_reducible refine (FE.out _).mono ?_)
        rintro e w7 ⟨rfl, hg7⟩
        have hgA := (Chg.refl [] w7).alloc (.cells #[strV s] 9)
        have HL8 := Lib.hid ((HL6.out.new_ hg7).new_ hgA)
        have hcell : (w7.alloc (.cells #[strV s] 9)).cell? ⟨w7.heap.size, 0, none⟩ = some (strV s) := (Blk.new w7 9 #[strV s]).cell 0
        have HB8 : Hid (Below W.heap.size W (w7.alloc (.cells #[strV s] 9))) := HB5.out.trans (((HC6.out.trans hg7).trans hgA).below.mono HB5.out.size)
        obtain ⟨c, hc⟩ := lay_live HL8.out s HSL.out (by omega)
        have FA := Lib.hid (walAppend_any L2 w7.heap.size 1 s _ hcell HSL.out c _ hc)
        clear hg7 hgA hcell hc FE l1
        go_wp2_with fail
        (with_reducible refine FA.out.mono ?_)
        rintro e w9 ⟨rfl, v9, D9, gs9, g9, x9, hl9, hk9, hb9, hsure⟩
        obtain ⟨hc0, hdd9, hrm9⟩ := hsure HL2.out.2.1 (by rw [HL2.out.2.2]; decide) HFEW.out
        subst hc0
        rw [if_pos rfl] at hl9
        obtain ⟨c10, hc10, hS⟩ := sync_live hl9
        obtain rfl := hc10 hdd9
        have FS := Lib.hid hS
        have HB9 := Lib.hid (HB8.out.trans hb9)
        clear hl9 hk9 hb9 hsure hdd9 hrm9 hS hc10 FA
        go_wp2_with fail
        (with_reducible refine FS.out.mono ?_)
        rintro e w10 ⟨rfl, ⟨D10, g10, x10, hl10, _, _⟩, hk10, hb10⟩
        rw [if_pos trivial] at hl10
        have HL10 := Lib.hid hl10
        have HB10 := Lib.hid (HB9.out.trans hb10)
        have FC := Lib.hid (crash_any d M 0 D10 w10 hl10.st.disk (by have := hl10.few; omega))
        clear hl10 hk10 hb10 FS
        go_wp2_with fail
        (with_reducible refine FC.out.mono ?_)
        rintro e w11 ⟨rfl, hd11, hg11⟩
        have hE11 : Env T w11 := HL10.out.st.env.chg hg11 (by have := HL10.out.st.lo; simp; omega) (by have := HL10.out.st.lo; simp; omega)
        have hB11 : Below W.heap.size W w11 := HB10.out.trans (disk_below ⟨HL10.out.low.2.1, HL10.out.low.2.2.1, HB10.out.size⟩ hg11)
        obtain ⟨ts2, hpre2, hnle2, hO2⟩ := open_crashed (Int.toNat 0) 4611686018427387904 HL10.out hE11 hd11 hB11.size
        obtain rfl : ts2 = ts ++ [s] := hpre2.eq_of_length_le hnle2
        have HO2 := Lib.hid hO2
        have HB11 := Lib.hid hB11
        clear hd11 hg11 hE11 hB11 hpre2 hnle2 hO2 FC
        go_wp2_with fail
        (with_reducible refine HO2.out.mono ?_)
        rintro e w12 ⟨L4, v4, u4, D4, gs4, g4, rfl, hl4, _, _, hown4, hk4, hb4⟩
        have hl1 : (ts ++ [s]).length = ts.length + 1 := by simp
        rw [hl1] at hown4
        obtain ⟨gb, qb, rfl, _, _⟩ := hown4.form (by omega)
        have k1 : w12.cell? ⟨gb, ts.length, none⟩ = some (strV s) := by
          rw [hown4.cellAt ts.length (by omega), List.getElem?_map]
          simp
        have HBE := Lib.hid (HB11.out.trans hb4)
        have z1 : (0 : Int) ≤ (ts.length : Int) := by omega
        have z2 : (ts.length : Int) < (ts.length : Int) + 1 := by omega
        clear hl4 hown4 hk4 hb4 HO2 hl1
        go_wp2_with fail
        go_returns
        exact ⟨by simp, HBE.out⟩
      · have l1 : (64 : Int) ≤ (D2.files.length : Int) := by omega
        clear hfull
        go_wp2_with fail
        go_returns
        exact ⟨rfl, HB5.out.trans (HC6.out.below.mono HB5.out.size)⟩
end Go.Proofs.YtofnehgjkdcmnaaGreatDoor

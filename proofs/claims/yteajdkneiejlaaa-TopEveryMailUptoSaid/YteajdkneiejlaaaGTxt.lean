/- The walks of octet.Text (of one text) and Reader.Text. -/
import Derived.Lib.AppendStr
import Derived.BigGuardPart
import Derived.Test.YteajdkneiejlaaaGPutM
import Derived.Test.YteajdkneiejlaaaGRdr
import Derived.Test.YteajdkneiejlaaaGBld
namespace Go.Proofs.Yteajdkneiejlaaa
open Go.RowKit Hg

/-- a text's bytes -/
def eText (l : Bytes) : Bytes := oct (l.length : Int) ++ l

set_option maxHeartbeats 2000000 in
set_option maxRecDepth 100000 in
theorem octText_any (A : Option Addr) (l : Bytes) (w : World) (hr : Rd w 1 A 1 [strV l]) (hl : l.length ≤ 1099511627776) :
    Calls Try.prog 43 #[.slice A 1 1] w (Ret (strV (eText l)) w) := by
  obtain ⟨i0, hi, hz0, hz1, hz2⟩ := info_parts infoByte
  have hI : I64 (l.length : Int) := by unfold I64; omega
  have ho9 : (oct (l.length : Int)).length ≤ 9 := by
    have := octs_len (xs := [(l.length : Int)]) (by simpa using hI)
    simpa [octs] using this
  obtain ⟨T, hT⟩ : ∃ T : Nat → Bytes, T = fun k => if k = 0 then [] else eText l := ⟨_, rfl⟩
  have hT0 : T 0 = [] := by rw [hT]; rfl
  have hT1 : T 1 = oct (l.length : Int) ++ l := by rw [hT]; rfl
  clear hT
  go_enter Try.func43, Try.ntmps43
  go_wp2_with fail
  go_loopw [3, 5, 8] (fun b _ i wr => ∃ k : Nat, k ≤ 1 ∧ i = .int .i64 k ∧ wr.ownsRow w.heap.size 5 1 b (T k).length (byteV (T k)) ∧ Below w.heap.size w wr)
    (fun _ _ i _ => 1 - (intOf i).toNat)
  case atStart => exact ⟨0, by omega, rfl, by rw [hT0]; simpa [byteV] using World.ownsRow_nil _ _ _ _, Below.refl _ _⟩
  case round =>
    obtain ⟨k, hk, rfl, hown, hb⟩ := hrel
    rcases Nat.lt_or_ge k 1 with hlt | hge
    · have : k = 0 := by omega
      subst this
      obtain ⟨ad, u, rfl, hu, hc⟩ := (hr.new_ (Chg.of_below hb)).at_ (k := 0) (by omega)
      simp only [List.getElem?_cons_zero, Option.some.injEq] at hu
      subst hu
      have hc0 : wr.cell? ad = some (strV l) := by simpa [Addr.add] using hc
      clear hr hc
      rw [hT0] at hown
      have HT := Lib.hid hT1
      clear hT0 hT1
      go_wp2_with (first
        | (go_at_call 63; refine (lay_any w.heap.size _ _ _ (l.length : Int) _ hown hI (by simp) hb.size).mono ?_; rintro e w1 ⟨v1, rfl, hown1, hb1⟩)
        | (at_builtin; refine Lib.wpList_append_own_string _ rfl (.tmp 15) (.tmp 16) 129 9 rfl w.heap.size 5 i0 Try.underlying129 Try.underlying9 hi hz0 hz1 hz2 _ _ _ rfl hown1 ⟨l.toArray⟩ rfl ?c3 ?c4 ?c5 ?_))
      case c3 => rw [size_mk]; simp [byteV]; unfold maxLen; omega
      case c4 => rw [size_mk]; simp [byteV]; omega
      case c5 => have := hb.size; have := hb1.size; omega
      intro v2 w2 hown2 hgrow _
      have hown3 : w2.ownsRow w.heap.size 5 1 v2 (T 1).length (byteV (T 1)) := by
        rw [HT.out, byteV_append, List.length_append]
        rw [strCells_byteV] at hown2
        simpa [byteV] using hown2
      have hb2 : Below w.heap.size w w2 := (hb.trans hb1).grown hgrow (hb.trans hb1).size (fun q hq => (hown1.lt q hq).1)
      clear hown hown1 hown2 hgrow hb hb1
      go_wp2_with fail
      go_roundw
      case rel => exact ⟨1, by omega, by go_num, hown3, hb2⟩
      case measure => simp [intOf]
    · have : k = 1 := by omega
      subst this
      rw [hT1] at hown
      have hcv := conv_own hown
      go_wp2_with fail
      go_ret
      exact ⟨rfl, Chg.of_below hb⟩

set_option maxHeartbeats 1000000 in
set_option maxRecDepth 100000 in
theorem rText_any (l rest : Bytes) (p : Nat) (w : World) (h : Rdr w p (eText l ++ rest)) (hl : l.length ≤ 65536) (hs : rest.length ≤ 1000000000) :
    Calls Try.prog 48 #[.pointer (some ⟨p, 0, none⟩)] w (RetR (strV l) p rest w) := by
  have h' : Rdr w p (oct (l.length : Int) ++ (l ++ rest)) := by rw [eText, List.append_assoc] at h; exact h
  have hI : I64 (l.length : Int) := by unfold I64; omega
  have hp := h.lt
  have R0 := Lib.hid (rInt_any (l.length : Int) (l ++ rest) p w hI h' (by rw [List.length_append]; omega))
  have hx1 := ext_take l rest
  have hx2 := ext_drop l rest
  have hsz := size_mk (l ++ rest)
  rw [List.length_append] at hsz
  have hS : Hid (ByteArray.mk (l ++ rest).toArray = ByteArray.mk (l ++ rest).toArray) := rfl
  clear h h'
  obtain ⟨S, hSe⟩ : ∃ S, ByteArray.mk (l ++ rest).toArray = S := ⟨_, rfl⟩
  have HS := Lib.hid hSe
  rw [hSe] at hx1 hx2 hsz
  clear hSe hS
  obtain ⟨n, hn⟩ : ∃ n, l.length = n := ⟨_, rfl⟩
  rw [hn] at hx1 hx2 hsz hl R0
  have L := Lib.hid hn
  clear hn
  have d1 : ¬ (65536 < n) := by omega
  have d2 : ¬ (n + rest.length < n) := by omega
  go_enter Try.func48, Try.ntmps48
  go_wp2_with (go_at_call 47; refine R0.out.mono ?_; rintro e w1 ⟨rfl, hr, hg⟩; have k0 : w1.cell? ⟨p, 0, none⟩ = some (.string S) := (by rw [← HS.out]; exact Blk.cell hr 0); have k1 : w1.cell? ⟨p, 1, none⟩ = some (.bool false) := Blk.cell hr 1; have f0 := Blk.frozen hr 0)
  go_ret
  refine ⟨rfl, ?_, hg.setCell (p := ⟨p, 0, none⟩) (.inl (by simp)) _⟩
  exact Blk.set_ hr 0 _
end Go.Proofs.Yteajdkneiejlaaa

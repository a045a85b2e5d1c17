/- The walks of octet.Int and octet.Text. -/
import Derived.Test.YtofnehgjkdcmnaaGreatDoorGOct
import Derived.Test.YtofnehgjkdcmnaaGreatDoorGChk
import Derived.Laws.IdiomStrings
import Derived.Lib.BufferRead
namespace Go.Proofs.YtofnehgjkdcmnaaGreatDoor
open Go.RowKit Hg

theorem byteV_append (a b : Bytes) : byteV (a ++ b) = byteV a ++ byteV b := by simp [byteV]
theorem byteV_length (a : Bytes) : (byteV a).length = a.length := by simp [byteV]

/-- string(b) of a row of the call's own -/
theorem conv_own {w : World} {base n : Nat} {v : Value} {l : Bytes} (h : w.ownsRow base 5 1 v n (byteV l)) : (convert 99 9 v).run Tryz.prog w = .ok (strV l) w := by
  have hl : l.length = n := by have := h.1; simpa [byteV] using this
  rcases h.2 with ⟨rfl, rfl⟩ | ⟨g, cap, cur, rfl, _⟩
  · have : l = [] := List.eq_nil_of_length_eq_zero hl
    subst this
    rw [Lib.run_convert_nil_bytes w 99 9 5 0 Tryz.underlying99 Tryz.underlying5 Tryz.underlying9]
  · have hc := h.cells (g := g) rfl
    subst hl
    refine run_convert_bytes_back w 99 9 5 ⟨g, 0, none⟩ cap l Tryz.underlying99 Tryz.underlying5 Tryz.underlying9 (fun j hj => ?_)
    exact hc j _ (by simp [byteV, List.getElem?_eq_getElem hj])

def octs (xs : List Int) : Bytes := xs.flatMap oct
theorem octs_len {xs : List Int} (h : ∀ x ∈ xs, I64 x) : (octs xs).length ≤ xs.length * 9 := by
  induction xs with
  | nil => simp [octs]
  | cons x xs ih =>
    have h1 := h x (by simp)
    have h2 := ih (fun y hy => h y (by simp [hy]))
    have h3 : (oct x).length ≤ 9 := by
      have := nby_le (n := mag x) (k := 8) (by have := mag_lt h1; omega)
      simp [oct, be_length]; omega
    simp [octs] at h2 ⊢
    omega

theorem octs_snoc {xs : List Int} {k : Nat} {x : Int} (h : xs[k]? = some x) : octs (xs.take (k + 1)) = octs (xs.take k) ++ oct x := by
  have e : xs.take (k + 1) = xs.take k ++ [x] := by rw [List.take_add_one, h]; rfl
  rw [e, octs, octs, List.flatMap_append]; simp

set_option maxHeartbeats 800000 in
set_option maxRecDepth 100000 in
theorem octInt_any (A : Option Addr) (n c : Nat) (xs : List Int) (w : World) (hr : Rd w 1 A n (xs.map i64)) (hx : ∀ x ∈ xs, I64 x) (hn : n ≤ 1000) :
    Calls Tryz.prog 27 #[.slice A n c] w (Ret (strV (octs xs)) w) := by
  have hlen : xs.length = n := by have := hr.1; simpa using this
  go_enter Tryz.func27, Tryz.ntmps27
  go_wp2_with fail
  go_loopw [3, 5, 8] (fun b _ i wr => ∃ k : Nat, k ≤ n ∧ i = .int .i64 k ∧ wr.ownsRow w.heap.size 5 1 b (octs (xs.take k)).length (byteV (octs (xs.take k))) ∧ Below w.heap.size w wr)
    (fun _ _ i _ => n - (intOf i).toNat)
  case atStart => exact ⟨0, by omega, rfl, by simpa [octs, byteV] using World.ownsRow_nil _ _ _ _, Below.refl _ _⟩
  case round =>
    obtain ⟨k, hk, rfl, hown, hb⟩ := hrel
    rcases Nat.lt_or_ge k n with hlt | hge
    · obtain ⟨ad, u, rfl, hu, hc⟩ := (hr.new_ (Chg.of_below hb)).at_ hlt
      have hxk : xs[k]? = some (xs[k]'(by omega)) := List.getElem?_eq_getElem (by omega)
      rw [List.getElem?_map, hxk] at hu
      simp only [Option.map_some, Option.some.injEq] at hu
      subst hu
      have htk : Hid (octs (xs.take (k + 1)) = octs (xs.take k) ++ oct (xs[k]'(by omega))) := by
        exact octs_snoc hxk
      have hI : I64 (xs[k]'(by omega)) := hx _ (List.getElem_mem _)
      generalize xs[k]'(by omega) = x at hc htk hI hxk
      have hln : (octs (xs.take k)).length ≤ 9000 := by
        have := octs_len (xs := xs.take k) (fun y hy => hx y (List.mem_of_mem_take hy))
        simp at this; omega
      clear hr hlen hxk hx
      go_wp2_with (go_at_call 66; refine (lay_any w.heap.size _ _ _ x _ hown hI (by omega) hb.size).mono ?_; rintro e w1 ⟨v1, rfl, hown1, hb1⟩)
      have hb2 := hb.trans hb1
      have hown2 : w1.ownsRow w.heap.size 5 1 v1 (octs (xs.take (k + 1))).length (byteV (octs (xs.take (k + 1)))) := by
        rw [htk.out, byteV_append, List.length_append]
        simpa [byteV] using hown1
      clear hown hown1 hb hb1 htk hc
      go_wp2_with fail
      go_roundw
      case rel => exact ⟨k + 1, by omega, by go_num, hown2, hb2⟩
      case measure => simp [intOf]; omega
    · have : k = n := by omega
      subst this
      rw [List.take_of_length_le (by omega)] at hown
      have hcv := conv_own hown
      go_wp2_with fail
      go_ret
      exact ⟨rfl, Chg.of_below hb⟩
end Go.Proofs.YtofnehgjkdcmnaaGreatDoor

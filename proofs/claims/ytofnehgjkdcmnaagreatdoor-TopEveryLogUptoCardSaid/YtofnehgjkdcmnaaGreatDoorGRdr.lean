/- The walks of a Reader's methods, over what may be read. -/
import Derived.Test.YtofnehgjkdcmnaaGreatDoorGHead
namespace Go.Proofs.YtofnehgjkdcmnaaGreatDoor
open Go.RowKit Hg

/-- a reader at block p, of which these bytes are left -/
def Rdr (w : World) (p : Nat) (l : Bytes) : Prop := Blk w p 128 #[strV l, .bool false]

theorem Rdr.lt {w : World} {p : Nat} {l : Bytes} (h : Rdr w p l) : p < w.heap.size := Blk.lt h

theorem ext_drop (a b : Bytes) : (ByteArray.mk (a ++ b).toArray).extract a.length (a.length + b.length) = ⟨b.toArray⟩ := by
  apply ByteArray.ext
  apply Array.ext'
  rw [Lib.extract_data]
  simp
theorem ext_take (a b : Bytes) : (ByteArray.mk (a ++ b).toArray).extract 0 a.length = ⟨a.toArray⟩ := by
  apply ByteArray.ext
  apply Array.ext'
  rw [Lib.extract_data]
  simp
theorem size_mk (a : Bytes) : (ByteArray.mk a.toArray).size = a.length := by show a.toArray.size = _; simp

/-- it returns v, and but for block p nothing has changed -/
def RetR (v : Value) (p : Nat) (rest : Bytes) (w : World) (e : Ending) (w' : World) : Prop := e = .returned v ∧ Rdr w' p rest ∧ Chg [p] w w'

set_option maxHeartbeats 1000000 in
set_option maxRecDepth 100000 in
theorem rInt_any (x : Int) (rest : Bytes) (p : Nat) (w : World) (hx : I64 x) (h : Rdr w p (oct x ++ rest)) (hs : rest.length ≤ 1099511627776) :
    Calls Tryz.prog 38 #[.pointer (some ⟨p, 0, none⟩)] w (RetR (i64 x) p rest w) := by
  have c0 : w.cell? ⟨p, 0, none⟩ = some (.string (ByteArray.mk (oct x ++ rest).toArray)) := Blk.cell h 0
  have c1 : w.cell? ⟨p, 1, none⟩ = some (.bool false) := Blk.cell h 1
  have hn : (oct x).length ≤ 9 := by
    have := nby_le (n := mag x) (k := 8) (by have := mag_lt hx; omega)
    simp [oct, be_length]; omega
  have hd : Calls Tryz.prog 73 #[.string (ByteArray.mk (oct x ++ rest).toArray)] w (Ret (.tuple #[i64 x, i64 ((oct x).length : Int), .bool true]) w) := head_any x rest w hx
  have hsz := size_mk (oct x ++ rest)
  rw [List.length_append] at hsz
  have hext := ext_drop (oct x) rest
  have hp := h.lt
  generalize ByteArray.mk (oct x ++ rest).toArray = S at c0 hd hsz hext
  generalize (oct x).length = n at hn hd hsz hext
  have HD := Lib.hid hd
  have H := Lib.hid h
  clear hd h
  go_enter Tryz.func38, Tryz.ntmps38
  go_wp2_with (go_at_call 73; refine HD.out.mono ?_; rintro e w1 ⟨rfl, hg⟩; have k0 := (hg.cell (p := ⟨p, 0, none⟩) hp (by simp)).trans c0; have k1 := (hg.cell (p := ⟨p, 1, none⟩) hp (by simp)).trans c1; have hB : Blk w1 p 128 _ := Blk.chg H.out hg (by simp); have f0 := hB.frozen 0)
  go_ret
  refine ⟨rfl, ?_, (hg.mono (by simp)).setCell (p := ⟨p, 0, none⟩) (.inl (by simp)) _⟩
  exact hB.set_ 0 _

set_option maxHeartbeats 1000000 in
set_option maxRecDepth 100000 in
theorem rCount_any (x most : Int) (rest : Bytes) (p : Nat) (w : World) (hx : I64 x) (h0 : 0 ≤ x) (h1 : x ≤ most) (h : Rdr w p (oct x ++ rest)) (hs : rest.length ≤ 1099511627776) :
    Calls Tryz.prog 74 #[.pointer (some ⟨p, 0, none⟩), i64 most] w (RetR (i64 x) p rest w) := by
  have d0 : decide (x < 0) = false := by simpa using h0
  have d1 : decide (most < x) = false := by simpa using h1
  have hc := rInt_any x rest p w hx h hs
  have HC := Lib.hid hc
  clear hc h hx h0 h1
  go_enter Tryz.func74, Tryz.ntmps74
  go_wp2_with (go_at_call 38; refine HC.out.mono ?_; rintro e w1 ⟨rfl, hr, hg⟩)
  go_ret
  exact ⟨rfl, hr, hg⟩

set_option maxHeartbeats 1000000 in
theorem rLeft_any (l : Bytes) (p : Nat) (w : World) (h : Rdr w p l) :
    Calls Tryz.prog 75 #[.pointer (some ⟨p, 0, none⟩)] w (Same (i64 l.length) w) := by
  have c0 : w.cell? ⟨p, 0, none⟩ = some (strV l) := Blk.cell h 0
  clear h
  go_enter Tryz.func75, Tryz.ntmps75
  go_wp2
  go_ret
  exact ⟨by simp, rfl⟩

set_option maxHeartbeats 1000000 in
theorem rDone_nil (p : Nat) (w : World) (h : Rdr w p []) :
    Calls Tryz.prog 45 #[.pointer (some ⟨p, 0, none⟩)] w (Same (i64 0) w) := by
  have c0 : w.cell? ⟨p, 0, none⟩ = some (strV []) := Blk.cell h 0
  have c1 : w.cell? ⟨p, 1, none⟩ = some (.bool false) := Blk.cell h 1
  clear h
  go_enter Tryz.func45, Tryz.ntmps45
  go_wp2
  go_ret
  exact ⟨rfl, rfl⟩

set_option maxHeartbeats 1000000 in
theorem bad_any (l : Bytes) (p : Nat) (w : World) (h : Rdr w p l) :
    Calls Tryz.prog 76 #[.pointer (some ⟨p, 0, none⟩)] w (Same (.bool false) w) := by
  cases l with
  | nil =>
    go_enter Tryz.func76, Tryz.ntmps76
    go_wp2_with (first
      | (go_at_call 75; refine (rLeft_any [] p _ h).mono ?_; rintro e w1 ⟨rfl, rfl⟩)
      | (go_at_call 45; refine (rDone_nil p _ h).mono ?_; rintro e w1 ⟨rfl, rfl⟩))
    go_ret
    exact ⟨rfl, rfl⟩
  | cons c l =>
    have d : (((c :: l).length : Int) == 0) = false := by simp; omega
    generalize hn : (c :: l).length = n at d
    have HN := Lib.hid hn
    clear hn
    have hl := rLeft_any (c :: l) p w h
    rw [HN.out] at hl
    have HL := Lib.hid hl
    clear hl
    go_enter Tryz.func76, Tryz.ntmps76
    go_wp2_with (go_at_call 75; refine HL.out.mono ?_; rintro e w1 ⟨rfl, rfl⟩)
    go_ret
    exact ⟨rfl, rfl⟩
end Go.Proofs.YtofnehgjkdcmnaaGreatDoor

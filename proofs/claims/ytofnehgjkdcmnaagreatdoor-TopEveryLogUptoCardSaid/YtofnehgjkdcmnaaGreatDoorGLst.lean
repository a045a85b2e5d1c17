/- Lists: laws for their walks. -/
import Derived.Test.YtofnehgjkdcmnaaGreatDoorGShelf
import Derived.Test.YtofnehgjkdcmnaaGreatDoorGBld
import Derived.Test.YtofnehgjkdcmnaaGreatDoorGPutM
import Derived.Test.YtofnehgjkdcmnaaGreatDoorGCmd
import Derived.BigGuardPart
namespace Go.Proofs.YtofnehgjkdcmnaaGreatDoor
open Go.RowKit Hg

/-- the cells of a name -/
abbrev idC (i : ID) : List Value := [i64 i.shard, i64 i.index, i64 i.gen]

/-- the cells of an entity, of a command -/
abbrev bunC (b : Bun) : List Value := [i64 b.id.shard, i64 b.id.index, i64 b.id.gen, i64 b.mask, i64 b.x, i64 b.y, i64 b.vx, i64 b.vy, i64 b.hp, i64 b.power, i64 b.left]
abbrev cmdC (c : Cmd) : List Value := [i64 c.kind, i64 c.id.shard, i64 c.id.index, i64 c.id.gen, i64 c.b.id.shard, i64 c.b.id.index, i64 c.b.id.gen, i64 c.b.mask, i64 c.b.x, i64 c.b.y, i64 c.b.vx, i64 c.b.vy, i64 c.b.hp, i64 c.b.power, i64 c.b.left, i64 c.mask]

theorem strB_byteV (l : Bytes) : Lib.byteCells l = byteV l := rfl

theorem builderString_any (B b : Nat) (l : Bytes) (w : World) (h : Lib.IsBuilder 123 5 B b (byteV l) w) (hBw : B ≤ w.heap.size) :
    Calls Tryz.prog 68 #[.pointer (some ⟨b, 0, none⟩)] w fun e w' => e = .returned (strV l) ∧ Below B w w' := Tryz.Builder_String_any B b l w h hBw

/-- element k of a row of n elements of size cells -/
theorem rd_elem {w : World} {size n : Nat} {A : Option Addr} {α : Type} {xs : List α} {enc : α → List Value} (he : ∀ x, (enc x).length = size) (h : Rd w size A n (xs.flatMap enc)) (hn : xs.length = n) {k : Nat} {x : α} (hk : xs[k]? = some x) :
    ∃ ad, A = some ad ∧ ∀ j u, (enc x)[j]? = some u → w.cell? ((ad.add (k * size)).add j) = some u := by
  have hkn : k < xs.length := (List.getElem?_eq_some_iff.1 hk).1
  obtain ⟨ad, rfl, hc⟩ := h.2 (by omega)
  refine ⟨ad, rfl, fun j u hu => ?_⟩
  rw [add_add]
  refine hc _ u ?_
  have : ∀ (ys : List α) (k : Nat), ys[k]? = some x → (ys.flatMap enc)[k * size + j]? = some u := by
    intro ys
    induction ys with
    | nil => intro k hk; simp at hk
    | cons y ys ih =>
      intro k hk
      rw [List.flatMap_cons]
      cases k with
      | zero =>
        simp at hk
        subst hk
        rw [List.getElem?_append_left (by have := (List.getElem?_eq_some_iff.1 hu).1; omega)]
        simpa using hu
      | succ k =>
        rw [List.getElem?_append_right (by rw [he]; simp [Nat.add_mul]; omega), he]
        have : (k + 1) * size + j - size = k * size + j := by simp [Nat.add_mul]; omega
        rw [this]
        exact ih k (by simpa using hk)
  exact this xs k hk

theorem bld_new {T e : TypeId} {B b : Nat} {bs : List Value} {w w' : World} (h : Lib.IsBuilder T e B b bs w) (hg : Chg [] w w') : Lib.IsBuilder T e B b bs w' := by
  have key : ∀ {p : Value}, Lib.BuilderAt T e B b p bs w → Lib.BuilderAt T e B b p bs w' := by
    rintro p ⟨hB, v, hb, hown, hne⟩
    exact ⟨hB, v, (hg.block b (Array.getElem?_eq_some_iff.1 hb).1 (by simp)).trans hb, own_chg hown hg (by simp), hne⟩
  exact h.elim (fun h => .inl (key h)) (fun h => .inr (key h))

theorem eList_take {α : Type} (e : α → Bytes) {l : List α} {k : Nat} {x : α} (h : l[k]? = some x) : (l.take (k + 1)).flatMap e = (l.take k).flatMap e ++ e x := by
  have e : l.take (k + 1) = l.take k ++ [x] := by rw [List.take_add_one, h]; rfl
  rw [e, List.flatMap_append]; simp
theorem flat_len {α : Type} {e : α → Bytes} {m : Nat} {l : List α} (h : ∀ x ∈ l, (e x).length ≤ m) (k : Nat) : ((l.take k).flatMap e).length ≤ l.length * m := by
  have : ∀ (ys : List α), (∀ x ∈ ys, (e x).length ≤ m) → (ys.flatMap e).length ≤ ys.length * m := by
    intro ys
    induction ys with
    | nil => intro _; simp
    | cons y ys ih =>
      intro h
      have h1 := h y (by simp)
      have h2 := ih (fun x hx => h x (by simp [hx]))
      rw [List.flatMap_cons, List.length_append, List.length_cons, Nat.add_mul]
      omega
  have h1 := this (l.take k) (fun x hx => h x (List.mem_of_mem_take hx))
  have h2 : (l.take k).length ≤ l.length := by rw [List.length_take]; exact Nat.min_le_right _ _
  exact Nat.le_trans h1 (Nat.mul_le_mul_right _ h2)

end Go.Proofs.YtofnehgjkdcmnaaGreatDoor

/- The walk of codec.List at ID. (made by a small program) -/
namespace Go.Proofs.YtofnehgjkdcmnaaGreatDoor
open Go.RowKit Hg

set_option maxHeartbeats 4000000 in
set_option maxRecDepth 100000 in
theorem listID_any (A : Option Addr) (n c : Nat) (l : List ID) (w : World) (hr : Rd w 3 A n (l.flatMap idC)) (hl : l.length = n) (hn : n ≤ 1024) (hx : ∀ x ∈ l, chkID x = true) :
    Calls Tryz.prog 32 #[.func (.func 33) #[] #[], .slice A n c] w (Ret (strV (eList eID l)) w) := by
  have hI : I64 (n : Int) := by unfold I64; omega
  have l0 : (octs [(n : Int)]).length ≤ 1 * 9 := octs_len (by simpa using hI)
  have hE : ∀ k, ((l.take k).flatMap eID).length ≤ 27648 := fun k => by
    have := flat_len (m := 27) (fun x h => eID_len (hx x h)) k
    generalize ((l.take k).flatMap eID).length = z at this ⊢; omega
  have hc : Hid (eList eID l = octs [(n : Int)] ++ (l.take n).flatMap eID) := by unfold Hid; rw [← hl]; simp [eList, octs]
  have o1 := Lib.hid (fun (A : Option Addr) w (hr : Rd w 1 A 1 [i64 n]) => octInt_any A 1 1 [(n : Int)] w hr (by simpa using hI) (by omega))
  clear hI
  generalize octs [(n : Int)] = S0 at o1 l0 hc
  go_enter Tryz.func32, Tryz.ntmps32
  go_wp2_with (first
    | (go_at_call 27; refine (o1.out _ _ (rd_box _ _ (by simp) _ _)).mono ?_; rintro e w1 ⟨rfl, hg1⟩)
    | (go_at_call 67; have hb1 := bld_new (Lib.fresh_isBuilder 123 5 w) (((Chg.refl [] _).alloc _).then_ hg1 (by simp)); refine (writeString_any w.heap.size w.heap.size [] S0 _ hb1 (by simp; omega) (by have := hg1.size; simp at this; omega)).mono ?_; rintro e w2 ⟨rfl, hb2, hB2⟩))
  have hC2 : Below w.heap.size w w2 := ((((Chg.refl [] w).alloc _).alloc _).trans hg1).below.trans hB2
  simp only [List.nil_append] at hb2
  clear hB2 hg1
  go_loopw [7, 15] (fun _ i wr => ∃ k : Nat, k ≤ n ∧ i = .int .i64 k ∧ Lib.IsBuilder 123 5 w.heap.size w.heap.size (byteV (S0 ++ (l.take k).flatMap eID)) wr ∧ Below w.heap.size w wr)
    (fun _ i _ => n - (intOf i).toNat)
  case atStart => exact ⟨0, by omega, rfl, by simpa using hb2, hC2⟩
  case round =>
    obtain ⟨k, hk, rfl, hbr, hCr⟩ := hrel
    have hcr := Lib.hid hC2
    clear hb1 hb2 hC2
    rcases Nat.lt_or_ge k n with hlt | hge
    · obtain ⟨ad, rfl, hel⟩ := rd_elem (size := 3) (enc := idC) (fun _ => rfl) (hr.new_ (Chg.of_below hCr)) hl (List.getElem?_eq_getElem (by omega : k < l.length))
      have hxk := Lib.hid (eList_take eID (List.getElem?_eq_getElem (by omega : k < l.length)))
      have hxi := hx _ (List.getElem_mem (by omega : k < l.length))
      have hxl := eID_len hxi
      have hEk := hE k
      have p1 := Lib.hid (fun w => putID_any _ w hxi)
      generalize l[k]'(by omega) = x at hel hxk p1 hxl
      have c0 : wr.cell? (ad.add (k * 3)) = some (i64 x.shard) := by have := hel 0 _ rfl; simpa [Addr.add] using this
      have c1 : wr.cell? ⟨(ad.add (k * 3)).block, (ad.add (k * 3)).off + 1, none⟩ = some (i64 x.index) := hel 1 _ rfl
      have c2 : wr.cell? ⟨(ad.add (k * 3)).block, (ad.add (k * 3)).off + 2, none⟩ = some (i64 x.gen) := hel 2 _ rfl
      clear hel hr hx hE hxi hc
      generalize eID x = S1 at hxk p1 hxl
      generalize (l.take k).flatMap eID = S2 at hxk hbr hEk
      go_wp2_with (first
        | (go_at_call 33; refine (p1.out _).mono ?_; rintro e w3 ⟨rfl, hg3⟩)
        | (go_at_call 67; have hg4 := ((Chg.refl [] wr).alloc _).trans hg3; refine (writeString_any w.heap.size w.heap.size (S0 ++ S2) S1 _ (bld_new hbr hg4) (by simp; omega) (by have := hCr.size; have := hg4.size; omega)).mono ?_; rintro e w4 ⟨rfl, hb4, hB4⟩))
      go_roundw
      case rel => exact ⟨k + 1, by omega, by go_num, by rw [hxk.out, ← List.append_assoc]; exact hb4, hCr.trans ((hg4.below.mono hCr.size).trans hB4)⟩
      case measure => simp [intOf]; omega
    · have : k = n := by omega
      subst this
      clear hr hE
      go_wp2_with (go_at_call 68; refine (builderString_any w.heap.size _ _ _ hbr hCr.size).mono ?_; rintro e w5 ⟨rfl, hB5⟩)
      go_ret
      exact ⟨by rw [hc.out]; rfl, Chg.of_below (hCr.trans hB5)⟩
end Go.Proofs.YtofnehgjkdcmnaaGreatDoor

/- The walk of codec.List at Bun. (made by a small program) -/
namespace Go.Proofs.YtofnehgjkdcmnaaGreatDoor
open Go.RowKit Hg

set_option maxHeartbeats 4000000 in
set_option maxRecDepth 100000 in
theorem listBun_any (A : Option Addr) (n c : Nat) (l : List Bun) (w : World) (hr : Rd w 11 A n (l.flatMap bunC)) (hl : l.length = n) (hn : n ≤ 1024) (hx : ∀ x ∈ l, chkBun x = true) :
    Calls Tryz.prog 30 #[.func (.func 31) #[] #[], .slice A n c] w (Ret (strV (eList eBun l)) w) := by
  have hI : I64 (n : Int) := by unfold I64; omega
  have l0 : (octs [(n : Int)]).length ≤ 1 * 9 := octs_len (by simpa using hI)
  have hE : ∀ k, ((l.take k).flatMap eBun).length ≤ 110592 := fun k => by
    have := flat_len (m := 108) (fun x h => eBun_len (hx x h)) k
    generalize ((l.take k).flatMap eBun).length = z at this ⊢; omega
  have hc : Hid (eList eBun l = octs [(n : Int)] ++ (l.take n).flatMap eBun) := by unfold Hid; rw [← hl]; simp [eList, octs]
  have o1 := Lib.hid (fun (A : Option Addr) w (hr : Rd w 1 A 1 [i64 n]) => octInt_any A 1 1 [(n : Int)] w hr (by simpa using hI) (by omega))
  clear hI
  generalize octs [(n : Int)] = S0 at o1 l0 hc
  go_enter Tryz.func30, Tryz.ntmps30
  go_wp2_with (first
    | (go_at_call 27; refine (o1.out _ _ (rd_box _ _ (by simp) _ _)).mono ?_; rintro e w1 ⟨rfl, hg1⟩)
    | (go_at_call 67; have hb1 := bld_new (Lib.fresh_isBuilder 123 5 w) (((Chg.refl [] _).alloc _).then_ hg1 (by simp)); refine (writeString_any w.heap.size w.heap.size [] S0 _ hb1 (by simp; omega) (by have := hg1.size; simp at this; omega)).mono ?_; rintro e w2 ⟨rfl, hb2, hB2⟩))
  have hC2 : Below w.heap.size w w2 := ((((Chg.refl [] w).alloc _).alloc _).trans hg1).below.trans hB2
  simp only [List.nil_append] at hb2
  clear hB2 hg1
  go_loopw [7, 15] (fun _ i wr => ∃ k : Nat, k ≤ n ∧ i = .int .i64 k ∧ Lib.IsBuilder 123 5 w.heap.size w.heap.size (byteV (S0 ++ (l.take k).flatMap eBun)) wr ∧ Below w.heap.size w wr)
    (fun _ i _ => n - (intOf i).toNat)
  case atStart => exact ⟨0, by omega, rfl, by simpa using hb2, hC2⟩
  case round =>
    obtain ⟨k, hk, rfl, hbr, hCr⟩ := hrel
    have hcr := Lib.hid hC2
    clear hb1 hb2 hC2
    rcases Nat.lt_or_ge k n with hlt | hge
    · obtain ⟨ad, rfl, hel⟩ := rd_elem (size := 11) (enc := bunC) (fun _ => rfl) (hr.new_ (Chg.of_below hCr)) hl (List.getElem?_eq_getElem (by omega : k < l.length))
      have hxk := Lib.hid (eList_take eBun (List.getElem?_eq_getElem (by omega : k < l.length)))
      have hxi := hx _ (List.getElem_mem (by omega : k < l.length))
      have hxl := eBun_len hxi
      have hEk := hE k
      have p1 := Lib.hid (fun w => putBun_any _ w hxi)
      generalize l[k]'(by omega) = x at hel hxk p1 hxl
      have c0 : wr.cell? (ad.add (k * 11)) = some (i64 x.id.shard) := by have := hel 0 _ rfl; simpa [Addr.add] using this
      have c1 : wr.cell? ⟨(ad.add (k * 11)).block, (ad.add (k * 11)).off + 1, none⟩ = some (i64 x.id.index) := hel 1 _ rfl
      have c2 : wr.cell? ⟨(ad.add (k * 11)).block, (ad.add (k * 11)).off + 2, none⟩ = some (i64 x.id.gen) := hel 2 _ rfl
      have c3 : wr.cell? ⟨(ad.add (k * 11)).block, (ad.add (k * 11)).off + 3, none⟩ = some (i64 x.mask) := hel 3 _ rfl
      have c4 : wr.cell? ⟨(ad.add (k * 11)).block, (ad.add (k * 11)).off + 4, none⟩ = some (i64 x.x) := hel 4 _ rfl
      have c5 : wr.cell? ⟨(ad.add (k * 11)).block, (ad.add (k * 11)).off + 5, none⟩ = some (i64 x.y) := hel 5 _ rfl
      have c6 : wr.cell? ⟨(ad.add (k * 11)).block, (ad.add (k * 11)).off + 6, none⟩ = some (i64 x.vx) := hel 6 _ rfl
      have c7 : wr.cell? ⟨(ad.add (k * 11)).block, (ad.add (k * 11)).off + 7, none⟩ = some (i64 x.vy) := hel 7 _ rfl
      have c8 : wr.cell? ⟨(ad.add (k * 11)).block, (ad.add (k * 11)).off + 8, none⟩ = some (i64 x.hp) := hel 8 _ rfl
      have c9 : wr.cell? ⟨(ad.add (k * 11)).block, (ad.add (k * 11)).off + 9, none⟩ = some (i64 x.power) := hel 9 _ rfl
      have c10 : wr.cell? ⟨(ad.add (k * 11)).block, (ad.add (k * 11)).off + 10, none⟩ = some (i64 x.left) := hel 10 _ rfl
      clear hel hr hx hE hxi hc
      generalize eBun x = S1 at hxk p1 hxl
      generalize (l.take k).flatMap eBun = S2 at hxk hbr hEk
      go_wp2_with (first
        | (go_at_call 31; refine (p1.out _).mono ?_; rintro e w3 ⟨rfl, hg3⟩)
        | (go_at_call 67; have hg4 := ((Chg.refl [] wr).alloc _).trans hg3; refine (writeString_any w.heap.size w.heap.size (S0 ++ S2) S1 _ (bld_new hbr hg4) (by simp; omega) (by have := hCr.size; have := hg4.size; omega)).mono ?_; rintro e w4 ⟨rfl, hb4, hB4⟩))
      go_roundw
      case rel => exact ⟨k + 1, by omega, by go_num, by rw [hxk.out, ← List.append_assoc]; exact hb4, hCr.trans ((hg4.below.mono hCr.size).trans hB4)⟩
      case measure => simp [intOf]; omega
    · have : k = n := by omega
      subst this
      clear hr hE
      go_wp2_with (go_at_call 68; refine (builderString_any w.heap.size _ _ _ hbr hCr.size).mono ?_; rintro e w5 ⟨rfl, hB5⟩)
      go_ret
      exact ⟨by rw [hc.out]; rfl, Chg.of_below (hCr.trans hB5)⟩
end Go.Proofs.YtofnehgjkdcmnaaGreatDoor

/- The walk of codec.List at Cmd. (made by a small program) -/
namespace Go.Proofs.YtofnehgjkdcmnaaGreatDoor
open Go.RowKit Hg

set_option maxHeartbeats 4000000 in
set_option maxRecDepth 100000 in
theorem listCmd_any (A : Option Addr) (n c : Nat) (l : List Cmd) (w : World) (hr : Rd w 16 A n (l.flatMap cmdC)) (hl : l.length = n) (hn : n ≤ 1024) (hx : ∀ x ∈ l, chkCmd x = true) :
    Calls Tryz.prog 28 #[.func (.func 29) #[] #[], .slice A n c] w (Ret (strV (eList eCmd l)) w) := by
  have hI : I64 (n : Int) := by unfold I64; omega
  have l0 : (octs [(n : Int)]).length ≤ 1 * 9 := octs_len (by simpa using hI)
  have hE : ∀ k, ((l.take k).flatMap eCmd).length ≤ 119808 := fun k => by
    have := flat_len (m := 117) (fun x h => eCmd_len (hx x h)) k
    generalize ((l.take k).flatMap eCmd).length = z at this ⊢; omega
  have hc : Hid (eList eCmd l = octs [(n : Int)] ++ (l.take n).flatMap eCmd) := by unfold Hid; rw [← hl]; simp [eList, octs]
  have o1 := Lib.hid (fun (A : Option Addr) w (hr : Rd w 1 A 1 [i64 n]) => octInt_any A 1 1 [(n : Int)] w hr (by simpa using hI) (by omega))
  clear hI
  generalize octs [(n : Int)] = S0 at o1 l0 hc
  go_enter Tryz.func28, Tryz.ntmps28
  go_wp2_with (first
    | (go_at_call 27; refine (o1.out _ _ (rd_box _ _ (by simp) _ _)).mono ?_; rintro e w1 ⟨rfl, hg1⟩)
    | (go_at_call 67; have hb1 := bld_new (Lib.fresh_isBuilder 123 5 w) (((Chg.refl [] _).alloc _).then_ hg1 (by simp)); refine (writeString_any w.heap.size w.heap.size [] S0 _ hb1 (by simp; omega) (by have := hg1.size; simp at this; omega)).mono ?_; rintro e w2 ⟨rfl, hb2, hB2⟩))
  have hC2 : Below w.heap.size w w2 := ((((Chg.refl [] w).alloc _).alloc _).trans hg1).below.trans hB2
  simp only [List.nil_append] at hb2
  clear hB2 hg1
  go_loopw [7, 15] (fun _ i wr => ∃ k : Nat, k ≤ n ∧ i = .int .i64 k ∧ Lib.IsBuilder 123 5 w.heap.size w.heap.size (byteV (S0 ++ (l.take k).flatMap eCmd)) wr ∧ Below w.heap.size w wr)
    (fun _ i _ => n - (intOf i).toNat)
  case atStart => exact ⟨0, by omega, rfl, by simpa using hb2, hC2⟩
  case round =>
    obtain ⟨k, hk, rfl, hbr, hCr⟩ := hrel
    have hcr := Lib.hid hC2
    clear hb1 hb2 hC2
    rcases Nat.lt_or_ge k n with hlt | hge
    · obtain ⟨ad, rfl, hel⟩ := rd_elem (size := 16) (enc := cmdC) (fun _ => rfl) (hr.new_ (Chg.of_below hCr)) hl (List.getElem?_eq_getElem (by omega : k < l.length))
      have hxk := Lib.hid (eList_take eCmd (List.getElem?_eq_getElem (by omega : k < l.length)))
      have hxi := hx _ (List.getElem_mem (by omega : k < l.length))
      have hxl := eCmd_len hxi
      have hEk := hE k
      have p1 := Lib.hid (fun w => putCmd_any _ w hxi)
      generalize l[k]'(by omega) = x at hel hxk p1 hxl
      have c0 : wr.cell? (ad.add (k * 16)) = some (i64 x.kind) := by have := hel 0 _ rfl; simpa [Addr.add] using this
      have c1 : wr.cell? ⟨(ad.add (k * 16)).block, (ad.add (k * 16)).off + 1, none⟩ = some (i64 x.id.shard) := hel 1 _ rfl
      have c2 : wr.cell? ⟨(ad.add (k * 16)).block, (ad.add (k * 16)).off + 2, none⟩ = some (i64 x.id.index) := hel 2 _ rfl
      have c3 : wr.cell? ⟨(ad.add (k * 16)).block, (ad.add (k * 16)).off + 3, none⟩ = some (i64 x.id.gen) := hel 3 _ rfl
      have c4 : wr.cell? ⟨(ad.add (k * 16)).block, (ad.add (k * 16)).off + 4, none⟩ = some (i64 x.b.id.shard) := hel 4 _ rfl
      have c5 : wr.cell? ⟨(ad.add (k * 16)).block, (ad.add (k * 16)).off + 5, none⟩ = some (i64 x.b.id.index) := hel 5 _ rfl
      have c6 : wr.cell? ⟨(ad.add (k * 16)).block, (ad.add (k * 16)).off + 6, none⟩ = some (i64 x.b.id.gen) := hel 6 _ rfl
      have c7 : wr.cell? ⟨(ad.add (k * 16)).block, (ad.add (k * 16)).off + 7, none⟩ = some (i64 x.b.mask) := hel 7 _ rfl
      have c8 : wr.cell? ⟨(ad.add (k * 16)).block, (ad.add (k * 16)).off + 8, none⟩ = some (i64 x.b.x) := hel 8 _ rfl
      have c9 : wr.cell? ⟨(ad.add (k * 16)).block, (ad.add (k * 16)).off + 9, none⟩ = some (i64 x.b.y) := hel 9 _ rfl
      have c10 : wr.cell? ⟨(ad.add (k * 16)).block, (ad.add (k * 16)).off + 10, none⟩ = some (i64 x.b.vx) := hel 10 _ rfl
      have c11 : wr.cell? ⟨(ad.add (k * 16)).block, (ad.add (k * 16)).off + 11, none⟩ = some (i64 x.b.vy) := hel 11 _ rfl
      have c12 : wr.cell? ⟨(ad.add (k * 16)).block, (ad.add (k * 16)).off + 12, none⟩ = some (i64 x.b.hp) := hel 12 _ rfl
      have c13 : wr.cell? ⟨(ad.add (k * 16)).block, (ad.add (k * 16)).off + 13, none⟩ = some (i64 x.b.power) := hel 13 _ rfl
      have c14 : wr.cell? ⟨(ad.add (k * 16)).block, (ad.add (k * 16)).off + 14, none⟩ = some (i64 x.b.left) := hel 14 _ rfl
      have c15 : wr.cell? ⟨(ad.add (k * 16)).block, (ad.add (k * 16)).off + 15, none⟩ = some (i64 x.mask) := hel 15 _ rfl
      clear hel hr hx hE hxi hc
      generalize eCmd x = S1 at hxk p1 hxl
      generalize (l.take k).flatMap eCmd = S2 at hxk hbr hEk
      go_wp2_with (first
        | (go_at_call 29; refine (p1.out _).mono ?_; rintro e w3 ⟨rfl, hg3⟩)
        | (go_at_call 67; have hg4 := ((Chg.refl [] wr).alloc _).trans hg3; refine (writeString_any w.heap.size w.heap.size (S0 ++ S2) S1 _ (bld_new hbr hg4) (by simp; omega) (by have := hCr.size; have := hg4.size; omega)).mono ?_; rintro e w4 ⟨rfl, hb4, hB4⟩))
      go_roundw
      case rel => exact ⟨k + 1, by omega, by go_num, by rw [hxk.out, ← List.append_assoc]; exact hb4, hCr.trans ((hg4.below.mono hCr.size).trans hB4)⟩
      case measure => simp [intOf]; omega
    · have : k = n := by omega
      subst this
      clear hr hE
      go_wp2_with (go_at_call 68; refine (builderString_any w.heap.size _ _ _ hbr hCr.size).mono ?_; rintro e w5 ⟨rfl, hB5⟩)
      go_ret
      exact ⟨by rw [hc.out]; rfl, Chg.of_below (hCr.trans hB5)⟩
end Go.Proofs.YtofnehgjkdcmnaaGreatDoor

/- The walk of codec.all at ID. (made by a small program) -/
namespace Go.Proofs.YtofnehgjkdcmnaaGreatDoor
open Go.RowKit Hg

set_option maxHeartbeats 4000000 in
set_option maxRecDepth 100000 in
theorem allID_loop (has : Bool) (A : Option Addr) (n c most : Nat) (l : List ID) (w : World) (hr : Rd w 3 A n (l.flatMap idC)) (hl : l.length = n) (hn : n ≤ 4611686018427387904) (d1 : decide ((most : Int) < (n : Int)) = false) (d0 : has = true ∨ n = 0) :
    Calls Tryz.prog 64 #[.bool has, .slice A n c, i64 (most : Int), .func (.func 65) #[] #[]] w (Ret (.bool (l.all chkID)) w) := by
  have hd : Hid (d1 = d1) := rfl
  have D1 : ((most : Int) < (n : Int)) = False := by simpa using d1
  have hset : has = true ∨ (has = false ∧ n = 0) := by rcases d0 with h | h; exact .inl h; cases has; exact .inr ⟨rfl, h⟩; exact .inl rfl
  clear d0 hd
  rcases hset with rfl | ⟨rfl, rfl⟩
  · go_enter Tryz.func64, Tryz.ntmps64
    go_wp2_with fail
    go_loopw [10, 26] (fun _ i wr => ∃ k : Nat, k ≤ n ∧ i = .int .i64 k ∧ (l.take k).all chkID = true ∧ Chg [] w wr)
      (fun _ i _ => n - (intOf i).toNat)
    case atStart => exact ⟨0, by omega, rfl, by simp, Chg.refl _ _⟩
    case round =>
      obtain ⟨k, hk, rfl, hall, hCr⟩ := hrel
      have HA := Lib.hid hall
      clear hall
      rcases Nat.lt_or_ge k n with hlt | hge
      · obtain ⟨ad, rfl, hel⟩ := rd_elem (size := 3) (enc := idC) (fun _ => rfl) (hr.new_ hCr) hl (List.getElem?_eq_getElem (by omega : k < l.length))
        have hxk : Hid ((l.take (k + 1)).all chkID = ((l.take k).all chkID && chkID (l[k]'(by omega)))) := by
          have e : l.take (k + 1) = l.take k ++ [l[k]'(by omega)] := by rw [List.take_add_one, List.getElem?_eq_getElem (by omega : k < l.length)]; rfl
          unfold Hid
          rw [e, List.all_append]; simp
        have hmem : Hid (l[k]'(by omega) ∈ l) := List.getElem_mem _
        have p1 := Lib.hid (fun w => checkID_any (l[k]'(by omega)) w)
        generalize l[k]'(by omega) = x at hel hxk p1 hmem
        have c0 : wr.cell? (ad.add (k * 3)) = some (i64 x.shard) := by have := hel 0 _ rfl; simpa [Addr.add] using this
        have c1 : wr.cell? ⟨(ad.add (k * 3)).block, (ad.add (k * 3)).off + 1, none⟩ = some (i64 x.index) := hel 1 _ rfl
        have c2 : wr.cell? ⟨(ad.add (k * 3)).block, (ad.add (k * 3)).off + 2, none⟩ = some (i64 x.gen) := hel 2 _ rfl
        clear hel hr
        cases hx : chkID x with
        | true =>
          have e0 := okArg_t
          rw [hx] at p1
          have HX := Lib.hid hx
          clear hx
          go_wp2_with (go_at_call 65; refine (p1.out _).mono ?_; rintro e w3 ⟨rfl, hg3⟩)
          go_roundw
          case rel => exact ⟨k + 1, by omega, by go_num, by rw [hxk.out, HA.out, HX.out]; rfl, (hCr.alloc _).trans hg3⟩
          case measure => simp [intOf]; omega
        | false =>
          have e0 := okArg_f
          rw [hx] at p1
          have HX := Lib.hid hx
          clear hx
          go_wp2_with (go_at_call 65; refine (p1.out _).mono ?_; rintro e w3 ⟨rfl, hg3⟩)
          go_ret
          refine ⟨?_, (hCr.alloc _).trans hg3⟩
          have : l.all chkID = false := by
            rw [List.all_eq_false]
            exact ⟨x, hmem.out, by rw [HX.out]; simp⟩
          rw [this]; rfl
      · have : k = n := by omega
        subst this
        go_wp2_with fail
        go_ret
        refine ⟨?_, hCr⟩
        have h2 := HA.out
        rw [List.take_of_length_le (by omega)] at h2
        rw [h2]; rfl
  · have hnil : l = [] := List.eq_nil_of_length_eq_zero hl
    subst hnil
    go_enter Tryz.func64, Tryz.ntmps64
    go_wp2_with fail
    go_loopw [10, 26] (fun _ i wr => i = .int .i64 0 ∧ wr = w)
      (fun _ i _ => 0)
    case atStart => exact ⟨rfl, rfl⟩
    case round =>
      obtain ⟨rfl, rfl⟩ := hrel
      go_wp2_with fail
      go_ret
      exact ⟨rfl, Chg.refl _ _⟩

set_option maxHeartbeats 1000000 in
set_option maxRecDepth 100000 in
theorem allID_any (has : Bool) (A : Option Addr) (n c most : Nat) (l : List ID) (w : World) (hr : Rd w 3 A n (l.flatMap idC)) (hl : l.length = n) (hn : n ≤ 4611686018427387904) :
    Calls Tryz.prog 64 #[.bool has, .slice A n c, i64 (most : Int), .func (.func 65) #[] #[]] w (Ret (.bool (lst has l most chkID)) w) := by
  by_cases hm : most < n
  · have e : lst has l most chkID = false := by simp [lst, hl]; omega
    rw [e]
    have d1 : ((most : Int) < (n : Int)) = True := by simpa using hm
    clear e hr
    by_cases h0 : 0 < n
    · have d0 : ((0 : Int) < (n : Int)) = True := by simpa using h0
      cases has
      all_goals (
        go_enter Tryz.func64, Tryz.ntmps64
        go_wp2_with fail
        go_ret
        exact ⟨rfl, Chg.refl _ _⟩)
    · omega
  · by_cases h0 : has = false ∧ 0 < n
    · obtain ⟨rfl, h0⟩ := h0
      have e : lst false l most chkID = false := by
        have : l ≠ [] := by rintro rfl; simp at hl; omega
        simp [lst, this]
      rw [e]
      have d0 : ((0 : Int) < (n : Int)) = True := by simpa using h0
      clear e hr
      go_enter Tryz.func64, Tryz.ntmps64
      go_wp2_with fail
      go_ret
      exact ⟨rfl, Chg.refl _ _⟩
    · have e : lst has l most chkID = l.all chkID := by
        have h1 : (has || l.isEmpty) = true := by
          cases has with
          | true => rfl
          | false =>
            have : n = 0 := by simp at h0; omega
            have : l = [] := List.eq_nil_of_length_eq_zero (by omega)
            subst this; rfl
        have h2 : decide (l.length ≤ most) = true := by simp; omega
        rw [lst, h1, h2]; rfl
      rw [e]
      exact allID_loop has A n c most l w hr hl hn (by simp; omega) (by cases has; exact .inr (by simp at h0; omega); exact .inl rfl)
end Go.Proofs.YtofnehgjkdcmnaaGreatDoor

/- The walk of codec.all at Bun. (made by a small program) -/
namespace Go.Proofs.YtofnehgjkdcmnaaGreatDoor
open Go.RowKit Hg

set_option maxHeartbeats 4000000 in
set_option maxRecDepth 100000 in
theorem allBun_loop (has : Bool) (A : Option Addr) (n c most : Nat) (l : List Bun) (w : World) (hr : Rd w 11 A n (l.flatMap bunC)) (hl : l.length = n) (hn : n ≤ 4611686018427387904) (d1 : decide ((most : Int) < (n : Int)) = false) (d0 : has = true ∨ n = 0) :
    Calls Tryz.prog 62 #[.bool has, .slice A n c, i64 (most : Int), .func (.func 63) #[] #[]] w (Ret (.bool (l.all chkBun)) w) := by
  have hd : Hid (d1 = d1) := rfl
  have D1 : ((most : Int) < (n : Int)) = False := by simpa using d1
  have hset : has = true ∨ (has = false ∧ n = 0) := by rcases d0 with h | h; exact .inl h; cases has; exact .inr ⟨rfl, h⟩; exact .inl rfl
  clear d0 hd
  rcases hset with rfl | ⟨rfl, rfl⟩
  · go_enter Tryz.func62, Tryz.ntmps62
    go_wp2_with fail
    go_loopw [10, 26] (fun _ i wr => ∃ k : Nat, k ≤ n ∧ i = .int .i64 k ∧ (l.take k).all chkBun = true ∧ Chg [] w wr)
      (fun _ i _ => n - (intOf i).toNat)
    case atStart => exact ⟨0, by omega, rfl, by simp, Chg.refl _ _⟩
    case round =>
      obtain ⟨k, hk, rfl, hall, hCr⟩ := hrel
      have HA := Lib.hid hall
      clear hall
      rcases Nat.lt_or_ge k n with hlt | hge
      · obtain ⟨ad, rfl, hel⟩ := rd_elem (size := 11) (enc := bunC) (fun _ => rfl) (hr.new_ hCr) hl (List.getElem?_eq_getElem (by omega : k < l.length))
        have hxk : Hid ((l.take (k + 1)).all chkBun = ((l.take k).all chkBun && chkBun (l[k]'(by omega)))) := by
          have e : l.take (k + 1) = l.take k ++ [l[k]'(by omega)] := by rw [List.take_add_one, List.getElem?_eq_getElem (by omega : k < l.length)]; rfl
          unfold Hid
          rw [e, List.all_append]; simp
        have hmem : Hid (l[k]'(by omega) ∈ l) := List.getElem_mem _
        have p1 := Lib.hid (fun w => check_any (l[k]'(by omega)) w)
        generalize l[k]'(by omega) = x at hel hxk p1 hmem
        have c0 : wr.cell? (ad.add (k * 11)) = some (i64 x.id.shard) := by have := hel 0 _ rfl; simpa [Addr.add] using this
        have c1 : wr.cell? ⟨(ad.add (k * 11)).block, (ad.add (k * 11)).off + 1, none⟩ = some (i64 x.id.index) := hel 1 _ rfl
        have c2 : wr.cell? ⟨(ad.add (k * 11)).block, (ad.add (k * 11)).off + 2, none⟩ = some (i64 x.id.gen) := hel 2 _ rfl
        have c3 : wr.cell? ⟨(ad.add (k * 11)).block, (ad.add (k * 11)).off + 3, none⟩ = some (i64 x.mask) := hel 3 _ rfl
        have c4 : wr.cell? ⟨(ad.add (k * 11)).block, (ad.add (k * 11)).off + 4, none⟩ = some (i64 x.x) := hel 4 _ rfl
        have c5 : wr.cell? ⟨(ad.add (k * 11)).block, (ad.add (k * 11)).off + 5, none⟩ = some (i64 x.y) := hel 5 _ rfl
        have c6 : wr.cell? ⟨(ad.add (k * 11)).block, (ad.add (k * 11)).off + 6, none⟩ = some (i64 x.vx) := hel 6 _ rfl
        have c7 : wr.cell? ⟨(ad.add (k * 11)).block, (ad.add (k * 11)).off + 7, none⟩ = some (i64 x.vy) := hel 7 _ rfl
        have c8 : wr.cell? ⟨(ad.add (k * 11)).block, (ad.add (k * 11)).off + 8, none⟩ = some (i64 x.hp) := hel 8 _ rfl
        have c9 : wr.cell? ⟨(ad.add (k * 11)).block, (ad.add (k * 11)).off + 9, none⟩ = some (i64 x.power) := hel 9 _ rfl
        have c10 : wr.cell? ⟨(ad.add (k * 11)).block, (ad.add (k * 11)).off + 10, none⟩ = some (i64 x.left) := hel 10 _ rfl
        clear hel hr
        cases hx : chkBun x with
        | true =>
          have e0 := okArg_t
          rw [hx] at p1
          have HX := Lib.hid hx
          clear hx
          go_wp2_with (go_at_call 63; refine (p1.out _).mono ?_; rintro e w3 ⟨rfl, hg3⟩)
          go_roundw
          case rel => exact ⟨k + 1, by omega, by go_num, by rw [hxk.out, HA.out, HX.out]; rfl, (hCr.alloc _).trans hg3⟩
          case measure => simp [intOf]; omega
        | false =>
          have e0 := okArg_f
          rw [hx] at p1
          have HX := Lib.hid hx
          clear hx
          go_wp2_with (go_at_call 63; refine (p1.out _).mono ?_; rintro e w3 ⟨rfl, hg3⟩)
          go_ret
          refine ⟨?_, (hCr.alloc _).trans hg3⟩
          have : l.all chkBun = false := by
            rw [List.all_eq_false]
            exact ⟨x, hmem.out, by rw [HX.out]; simp⟩
          rw [this]; rfl
      · have : k = n := by omega
        subst this
        go_wp2_with fail
        go_ret
        refine ⟨?_, hCr⟩
        have h2 := HA.out
        rw [List.take_of_length_le (by omega)] at h2
        rw [h2]; rfl
  · have hnil : l = [] := List.eq_nil_of_length_eq_zero hl
    subst hnil
    go_enter Tryz.func62, Tryz.ntmps62
    go_wp2_with fail
    go_loopw [10, 26] (fun _ i wr => i = .int .i64 0 ∧ wr = w)
      (fun _ i _ => 0)
    case atStart => exact ⟨rfl, rfl⟩
    case round =>
      obtain ⟨rfl, rfl⟩ := hrel
      go_wp2_with fail
      go_ret
      exact ⟨rfl, Chg.refl _ _⟩

set_option maxHeartbeats 1000000 in
set_option maxRecDepth 100000 in
theorem allBun_any (has : Bool) (A : Option Addr) (n c most : Nat) (l : List Bun) (w : World) (hr : Rd w 11 A n (l.flatMap bunC)) (hl : l.length = n) (hn : n ≤ 4611686018427387904) :
    Calls Tryz.prog 62 #[.bool has, .slice A n c, i64 (most : Int), .func (.func 63) #[] #[]] w (Ret (.bool (lst has l most chkBun)) w) := by
  by_cases hm : most < n
  · have e : lst has l most chkBun = false := by simp [lst, hl]; omega
    rw [e]
    have d1 : ((most : Int) < (n : Int)) = True := by simpa using hm
    clear e hr
    by_cases h0 : 0 < n
    · have d0 : ((0 : Int) < (n : Int)) = True := by simpa using h0
      cases has
      all_goals (
        go_enter Tryz.func62, Tryz.ntmps62
        go_wp2_with fail
        go_ret
        exact ⟨rfl, Chg.refl _ _⟩)
    · omega
  · by_cases h0 : has = false ∧ 0 < n
    · obtain ⟨rfl, h0⟩ := h0
      have e : lst false l most chkBun = false := by
        have : l ≠ [] := by rintro rfl; simp at hl; omega
        simp [lst, this]
      rw [e]
      have d0 : ((0 : Int) < (n : Int)) = True := by simpa using h0
      clear e hr
      go_enter Tryz.func62, Tryz.ntmps62
      go_wp2_with fail
      go_ret
      exact ⟨rfl, Chg.refl _ _⟩
    · have e : lst has l most chkBun = l.all chkBun := by
        have h1 : (has || l.isEmpty) = true := by
          cases has with
          | true => rfl
          | false =>
            have : n = 0 := by simp at h0; omega
            have : l = [] := List.eq_nil_of_length_eq_zero (by omega)
            subst this; rfl
        have h2 : decide (l.length ≤ most) = true := by simp; omega
        rw [lst, h1, h2]; rfl
      rw [e]
      exact allBun_loop has A n c most l w hr hl hn (by simp; omega) (by cases has; exact .inr (by simp at h0; omega); exact .inl rfl)
end Go.Proofs.YtofnehgjkdcmnaaGreatDoor

/- The walk of codec.all at Cmd. (made by a small program) -/
namespace Go.Proofs.YtofnehgjkdcmnaaGreatDoor
open Go.RowKit Hg

set_option maxHeartbeats 4000000 in
set_option maxRecDepth 100000 in
theorem allCmd_loop (has : Bool) (A : Option Addr) (n c most : Nat) (l : List Cmd) (w : World) (hr : Rd w 16 A n (l.flatMap cmdC)) (hl : l.length = n) (hn : n ≤ 4611686018427387904) (d1 : decide ((most : Int) < (n : Int)) = false) (d0 : has = true ∨ n = 0) :
    Calls Tryz.prog 60 #[.bool has, .slice A n c, i64 (most : Int), .func (.func 61) #[] #[]] w (Ret (.bool (l.all chkCmd)) w) := by
  have hd : Hid (d1 = d1) := rfl
  have D1 : ((most : Int) < (n : Int)) = False := by simpa using d1
  have hset : has = true ∨ (has = false ∧ n = 0) := by rcases d0 with h | h; exact .inl h; cases has; exact .inr ⟨rfl, h⟩; exact .inl rfl
  clear d0 hd
  rcases hset with rfl | ⟨rfl, rfl⟩
  · go_enter Tryz.func60, Tryz.ntmps60
    go_wp2_with fail
    go_loopw [10, 26] (fun _ i wr => ∃ k : Nat, k ≤ n ∧ i = .int .i64 k ∧ (l.take k).all chkCmd = true ∧ Chg [] w wr)
      (fun _ i _ => n - (intOf i).toNat)
    case atStart => exact ⟨0, by omega, rfl, by simp, Chg.refl _ _⟩
    case round =>
      obtain ⟨k, hk, rfl, hall, hCr⟩ := hrel
      have HA := Lib.hid hall
      clear hall
      rcases Nat.lt_or_ge k n with hlt | hge
      · obtain ⟨ad, rfl, hel⟩ := rd_elem (size := 16) (enc := cmdC) (fun _ => rfl) (hr.new_ hCr) hl (List.getElem?_eq_getElem (by omega : k < l.length))
        have hxk : Hid ((l.take (k + 1)).all chkCmd = ((l.take k).all chkCmd && chkCmd (l[k]'(by omega)))) := by
          have e : l.take (k + 1) = l.take k ++ [l[k]'(by omega)] := by rw [List.take_add_one, List.getElem?_eq_getElem (by omega : k < l.length)]; rfl
          unfold Hid
          rw [e, List.all_append]; simp
        have hmem : Hid (l[k]'(by omega) ∈ l) := List.getElem_mem _
        have p1 := Lib.hid (fun w => checkCmd_any (l[k]'(by omega)) w)
        generalize l[k]'(by omega) = x at hel hxk p1 hmem
        have c0 : wr.cell? (ad.add (k * 16)) = some (i64 x.kind) := by have := hel 0 _ rfl; simpa [Addr.add] using this
        have c1 : wr.cell? ⟨(ad.add (k * 16)).block, (ad.add (k * 16)).off + 1, none⟩ = some (i64 x.id.shard) := hel 1 _ rfl
        have c2 : wr.cell? ⟨(ad.add (k * 16)).block, (ad.add (k * 16)).off + 2, none⟩ = some (i64 x.id.index) := hel 2 _ rfl
        have c3 : wr.cell? ⟨(ad.add (k * 16)).block, (ad.add (k * 16)).off + 3, none⟩ = some (i64 x.id.gen) := hel 3 _ rfl
        have c4 : wr.cell? ⟨(ad.add (k * 16)).block, (ad.add (k * 16)).off + 4, none⟩ = some (i64 x.b.id.shard) := hel 4 _ rfl
        have c5 : wr.cell? ⟨(ad.add (k * 16)).block, (ad.add (k * 16)).off + 5, none⟩ = some (i64 x.b.id.index) := hel 5 _ rfl
        have c6 : wr.cell? ⟨(ad.add (k * 16)).block, (ad.add (k * 16)).off + 6, none⟩ = some (i64 x.b.id.gen) := hel 6 _ rfl
        have c7 : wr.cell? ⟨(ad.add (k * 16)).block, (ad.add (k * 16)).off + 7, none⟩ = some (i64 x.b.mask) := hel 7 _ rfl
        have c8 : wr.cell? ⟨(ad.add (k * 16)).block, (ad.add (k * 16)).off + 8, none⟩ = some (i64 x.b.x) := hel 8 _ rfl
        have c9 : wr.cell? ⟨(ad.add (k * 16)).block, (ad.add (k * 16)).off + 9, none⟩ = some (i64 x.b.y) := hel 9 _ rfl
        have c10 : wr.cell? ⟨(ad.add (k * 16)).block, (ad.add (k * 16)).off + 10, none⟩ = some (i64 x.b.vx) := hel 10 _ rfl
        have c11 : wr.cell? ⟨(ad.add (k * 16)).block, (ad.add (k * 16)).off + 11, none⟩ = some (i64 x.b.vy) := hel 11 _ rfl
        have c12 : wr.cell? ⟨(ad.add (k * 16)).block, (ad.add (k * 16)).off + 12, none⟩ = some (i64 x.b.hp) := hel 12 _ rfl
        have c13 : wr.cell? ⟨(ad.add (k * 16)).block, (ad.add (k * 16)).off + 13, none⟩ = some (i64 x.b.power) := hel 13 _ rfl
        have c14 : wr.cell? ⟨(ad.add (k * 16)).block, (ad.add (k * 16)).off + 14, none⟩ = some (i64 x.b.left) := hel 14 _ rfl
        have c15 : wr.cell? ⟨(ad.add (k * 16)).block, (ad.add (k * 16)).off + 15, none⟩ = some (i64 x.mask) := hel 15 _ rfl
        clear hel hr
        cases hx : chkCmd x with
        | true =>
          have e0 := okArg_t
          rw [hx] at p1
          have HX := Lib.hid hx
          clear hx
          go_wp2_with (go_at_call 61; refine (p1.out _).mono ?_; rintro e w3 ⟨rfl, hg3⟩)
          go_roundw
          case rel => exact ⟨k + 1, by omega, by go_num, by rw [hxk.out, HA.out, HX.out]; rfl, (hCr.alloc _).trans hg3⟩
          case measure => simp [intOf]; omega
        | false =>
          have e0 := okArg_f
          rw [hx] at p1
          have HX := Lib.hid hx
          clear hx
          go_wp2_with (go_at_call 61; refine (p1.out _).mono ?_; rintro e w3 ⟨rfl, hg3⟩)
          go_ret
          refine ⟨?_, (hCr.alloc _).trans hg3⟩
          have : l.all chkCmd = false := by
            rw [List.all_eq_false]
            exact ⟨x, hmem.out, by rw [HX.out]; simp⟩
          rw [this]; rfl
      · have : k = n := by omega
        subst this
        go_wp2_with fail
        go_ret
        refine ⟨?_, hCr⟩
        have h2 := HA.out
        rw [List.take_of_length_le (by omega)] at h2
        rw [h2]; rfl
  · have hnil : l = [] := List.eq_nil_of_length_eq_zero hl
    subst hnil
    go_enter Tryz.func60, Tryz.ntmps60
    go_wp2_with fail
    go_loopw [10, 26] (fun _ i wr => i = .int .i64 0 ∧ wr = w)
      (fun _ i _ => 0)
    case atStart => exact ⟨rfl, rfl⟩
    case round =>
      obtain ⟨rfl, rfl⟩ := hrel
      go_wp2_with fail
      go_ret
      exact ⟨rfl, Chg.refl _ _⟩

set_option maxHeartbeats 1000000 in
set_option maxRecDepth 100000 in
theorem allCmd_any (has : Bool) (A : Option Addr) (n c most : Nat) (l : List Cmd) (w : World) (hr : Rd w 16 A n (l.flatMap cmdC)) (hl : l.length = n) (hn : n ≤ 4611686018427387904) :
    Calls Tryz.prog 60 #[.bool has, .slice A n c, i64 (most : Int), .func (.func 61) #[] #[]] w (Ret (.bool (lst has l most chkCmd)) w) := by
  by_cases hm : most < n
  · have e : lst has l most chkCmd = false := by simp [lst, hl]; omega
    rw [e]
    have d1 : ((most : Int) < (n : Int)) = True := by simpa using hm
    clear e hr
    by_cases h0 : 0 < n
    · have d0 : ((0 : Int) < (n : Int)) = True := by simpa using h0
      cases has
      all_goals (
        go_enter Tryz.func60, Tryz.ntmps60
        go_wp2_with fail
        go_ret
        exact ⟨rfl, Chg.refl _ _⟩)
    · omega
  · by_cases h0 : has = false ∧ 0 < n
    · obtain ⟨rfl, h0⟩ := h0
      have e : lst false l most chkCmd = false := by
        have : l ≠ [] := by rintro rfl; simp at hl; omega
        simp [lst, this]
      rw [e]
      have d0 : ((0 : Int) < (n : Int)) = True := by simpa using h0
      clear e hr
      go_enter Tryz.func60, Tryz.ntmps60
      go_wp2_with fail
      go_ret
      exact ⟨rfl, Chg.refl _ _⟩
    · have e : lst has l most chkCmd = l.all chkCmd := by
        have h1 : (has || l.isEmpty) = true := by
          cases has with
          | true => rfl
          | false =>
            have : n = 0 := by simp at h0; omega
            have : l = [] := List.eq_nil_of_length_eq_zero (by omega)
            subst this; rfl
        have h2 : decide (l.length ≤ most) = true := by simp; omega
        rw [lst, h1, h2]; rfl
      rw [e]
      exact allCmd_loop has A n c most l w hr hl hn (by simp; omega) (by cases has; exact .inr (by simp at h0; omega); exact .inl rfl)
end Go.Proofs.YtofnehgjkdcmnaaGreatDoor

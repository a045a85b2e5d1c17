/- The walks of codec.PutID, PutBundle and PutCmd. -/
import Derived.Deep.RegionWith
import Derived.Test.YtofnehgjkdcmnaaGreatDoorGPut
import Derived.Test.YtofnehgjkdcmnaaGreatDoorGCmd
namespace Go.Proofs.YtofnehgjkdcmnaaGreatDoor
open Go.RowKit Hg

theorem rd_box3 (w : World) (g : Nat) (hg : g = w.heap.size) (t : TypeId) (u v x : Value) : Rd (w.alloc (.cells #[u, v, x] t)) 1 (some ⟨g, 0, none⟩) 3 [u, v, x] := by
  subst hg
  refine ⟨rfl, fun _ => ⟨_, rfl, fun j y hy => ?_⟩⟩
  match j, hy with
  | 0, hy => rw [← hy]; exact (Blk.new w t #[u, v, x]).cell 0
  | 1, hy => rw [← hy]; exact (Blk.new w t #[u, v, x]).cell 1
  | 2, hy => rw [← hy]; exact (Blk.new w t #[u, v, x]).cell 2

theorem id_i64 {i : ID} (h : chkID i = true) : I64 i.shard ∧ I64 i.index ∧ I64 i.gen := by
  simp only [chkID, Bool.and_eq_true] at h
  exact ⟨within_i64 h.1.1 (by omega) (by omega), within_i64 h.1.2 (by omega) (by omega), within_i64 h.2 (by omega) (by omega)⟩
theorem octs_one (x : Int) : octs [x] = oct x := by simp [octs]
theorem octs_id (i : ID) : octs [i.shard, i.index, i.gen] = eID i := by simp [octs, eID]
theorem eID_len {i : ID} (h : chkID i = true) : (eID i).length ≤ 27 := by
  rw [← octs_id]
  exact octs_len (by have := id_i64 h; simp [this.1, this.2.1, this.2.2])
theorem mask_i64 {b : Bun} (h : right b = true) : I64 b.mask := by
  have : 0 ≤ b.mask ∧ b.mask ≤ 31 := by simp [right] at h; omega
  unfold I64; omega
theorem eParts_len {b : Bun} (h : right b = true) : (eParts b).length ≤ 81 := by
  rw [← offs_bits]
  have h1 := octsAt_len h (offs b.mask 7)
  have h2 := offs_len b.mask 7
  have h3 : (octs [b.mask]).length ≤ 1 * 9 := octs_len (by simpa using mask_i64 h)
  rw [octs_one] at h3
  rw [List.length_append]
  omega
theorem chkBun_right {b : Bun} (h : chkBun b = true) : right b = true ∧ chkID b.id = true := by
  simp only [chkBun, Bool.and_eq_true] at h
  exact ⟨h.1.1, h.2⟩
theorem eBun_len {b : Bun} (h : chkBun b = true) : (eBun b).length ≤ 108 := by
  have := eParts_len (chkBun_right h).1
  have := eID_len (chkBun_right h).2
  simp only [eBun, List.length_append]; omega

theorem put_any (b : Bun) (w : World) (h : right b = true) : Calls Tryz.prog 69 #[bunV b] w (Ret (strV (eParts b)) w) :=
  callsIn_wide.1 (put_in b w h (mask_i64 h))

set_option maxHeartbeats 1000000 in
set_option maxRecDepth 100000 in
theorem putID_any (i : ID) (w : World) (h : chkID i = true) : Calls Tryz.prog 33 #[idV i] w (Ret (strV (eID i)) w) := by
  have hI := id_i64 h
  have e0 := okArg_t
  go_enter Tryz.func33, Tryz.ntmps33
  go_wp2_with (first
    | (go_at_call 65; refine (checkID_any i _).mono ?_; rintro e w1 ⟨rfl, hg1⟩; have k := cells_keep hg1 (b := w.heap.size) (by simp) (by simp))
    | (go_at_call 27; refine (octInt_any (some ⟨w1.heap.size, 0, none⟩) 3 3 [i.shard, i.index, i.gen] _ (rd_box3 w1 _ rfl _ _ _ _) (by simp [hI.1, hI.2.1, hI.2.2]) (by omega)).mono ?_; rintro e w2 ⟨rfl, hg2⟩))
  go_ret
  exact ⟨by simp [octs_id], ((((Chg.refl _ _).alloc _).trans hg1).alloc _).trans hg2⟩

set_option maxHeartbeats 1000000 in
set_option maxRecDepth 100000 in
theorem putBun_any (b : Bun) (w : World) (h : chkBun b = true) : Calls Tryz.prog 31 #[bunV b] w (Ret (strV (eBun b)) w) := by
  have e0 := okArg_t
  obtain ⟨hr, hi⟩ := chkBun_right h
  have l1 := eID_len hi
  have l2 := eParts_len hr
  have hsum : ¬ (9223372036854775807 < (eID b.id).length + (eParts b).length) := by omega
  have hbun : eBun b = eID b.id ++ eParts b := rfl
  have hP1 := putID_any b.id
  go_enter Tryz.func31, Tryz.ntmps31
  go_wp2_with (go_at_call 63; refine (check_any b _).mono ?_; rintro e w1 ⟨rfl, hg1⟩; have k := cells_keep hg1 (b := w.heap.size) (by simp) (by simp); have hs1 : w.heap.size < w1.heap.size := (by have := hg1.size; simp at this; omega))
  go_region_with (first
    | (go_at_call 33; refine (putID_any b.id _ hi).mono ?_; rintro e w2 ⟨rfl, hg2⟩; have k2 := cells_keep hg2 (b := w.heap.size) (by simpa using hs1) (by simp))
    | (go_at_call 69; refine (put_any b _ hr).mono ?_; rintro e w3 ⟨rfl, hg3⟩))
  all_goals (
    go_wp2_with fail
    go_ret
    exact ⟨by rw [hbun, ByteArray.mk_append_mk]; rfl, (((Chg.refl _ _).alloc _).trans hg1).drew.trans (hg2.trans hg3)⟩)

end Go.Proofs.YtofnehgjkdcmnaaGreatDoor

/- The walk of codec.PutCmd. (made by a small program) -/
namespace Go.Proofs.YtofnehgjkdcmnaaGreatDoor
open Go.RowKit Hg

theorem chkCmd_1 {c : Cmd} (h : chkCmd c = true) (hk : c.kind = 1) : chkBun c.b = true := by
  simp [chkCmd, hk] at h; exact h.2
theorem chkCmd_3 {c : Cmd} (h : chkCmd c = true) (hk : c.kind = 3) : right c.b = true ∧ chkID c.id = true := by
  simp [chkCmd, hk] at h; exact ⟨h.1.2, h.2⟩
theorem chkCmd_4 {c : Cmd} (h : chkCmd c = true) (hk : c.kind = 4) : I64 c.mask ∧ chkID c.id = true := by
  simp [chkCmd, hk, some'] at h
  exact ⟨by unfold I64; omega, h.2⟩
theorem chkCmd_2 {c : Cmd} (h : chkCmd c = true) (hk : c.kind = 2) : chkID c.id = true := by
  simp [chkCmd, hk] at h; exact h.2
theorem chkCmd_kind {c : Cmd} (h : chkCmd c = true) : c.kind = 1 ∨ c.kind = 3 ∨ c.kind = 4 ∨ c.kind = 2 := by
  unfold chkCmd at h
  repeat (first | (split at h; · simp [*]) | (cases h))
theorem eCmd_len {c : Cmd} (h : chkCmd c = true) : (eCmd c).length ≤ 117 := by
  have hI : I64 c.kind := by rcases chkCmd_kind h with e | e | e | e <;> rw [e] <;> simp [I64]
  have l1 : (octs [c.kind]).length ≤ 1 * 9 := octs_len (by simpa using hI)
  rw [octs_one] at l1
  unfold eCmd
  rw [List.length_append]
  rcases chkCmd_kind h with e | e | e | e
  · have := eBun_len (chkCmd_1 h e)
    simp only [e, if_true] at l1 ⊢; omega
  · obtain ⟨a, b⟩ := chkCmd_3 h e
    have := eID_len b
    have := eParts_len a
    simp [e] at l1 ⊢; omega
  · obtain ⟨a, b⟩ := chkCmd_4 h e
    have := eID_len b
    have l2 : (octs [c.mask]).length ≤ 1 * 9 := octs_len (by simpa using a)
    rw [octs_one] at l2
    simp [e] at l1 ⊢; omega
  · have := eID_len (chkCmd_2 h e)
    simp [e] at l1 ⊢; omega

set_option maxHeartbeats 4000000 in
set_option maxRecDepth 100000 in
theorem putCmd_1 (c : Cmd) (w : World) (hI : I64 c.kind) (h : chkCmd c = true) (hk : (c.kind == 1) = true) (hb : chkBun c.b = true) : Calls Tryz.prog 29 #[cmdV c] w (Ret (strV (eCmd c)) w) := by
  have e0 := okArg_t
  have l0 : (octs [c.kind]).length ≤ 1 * 9 := octs_len (by simpa using hI)
  have l1 := eBun_len hb
  have hsum : ¬ (9223372036854775807 < (octs [c.kind]).length + (eBun c.b).length) := by omega
  have hc : Hid (eCmd c = octs [c.kind] ++ eBun c.b) := by
    have : c.kind = 1 := by simpa using hk
    simp [Hid, eCmd, this, octs]
  have p1 := Lib.hid (fun w => putBun_any c.b w hb)
  clear l0 l1
  generalize eBun c.b = S1 at p1 hsum hc
  have o1 := Lib.hid (fun (A : Option Addr) w (hr : Rd w 1 A 1 [i64 c.kind]) => octInt_any A 1 1 [c.kind] w hr (by simpa using hI) (by omega))
  clear hI
  generalize octs [c.kind] = S0 at o1 hsum hc
  go_enter Tryz.func29, Tryz.ntmps29
  go_wp2_with (first
    | (go_at_call 61; refine (checkCmd_any c _).mono ?_; rintro e w1 ⟨rfl, hg1⟩; have k := cells_keep hg1 (b := w.heap.size) (by simp) (by simp); have hs1 : w.heap.size < w1.heap.size := (by have := hg1.size; simp at this; omega))
    | (go_at_call 27; refine (o1.out (some ⟨w1.heap.size, 0, none⟩) _ (rd_box w1 _ rfl _ _)).mono ?_; rintro e w2 ⟨rfl, hg2⟩; have k2 := cells_keep hg2 (b := w.heap.size) (by simp; omega) (by simp); have hs2 : w.heap.size < w2.heap.size := (by have := hg2.size; simp at this; omega))
    | (go_at_call 31; refine (p1.out _).mono ?_; rintro e w3 ⟨rfl, hg3⟩))
  go_ret
  exact ⟨by rw [hc.out, ByteArray.mk_append_mk]; rfl, (((((Chg.refl _ _).alloc _).trans hg1).alloc _).trans hg2).trans hg3⟩

set_option maxHeartbeats 4000000 in
set_option maxRecDepth 100000 in
theorem putCmd_2 (c : Cmd) (w : World) (hI : I64 c.kind) (h : chkCmd c = true) (h1 : (c.kind == 1) = false) (h3 : (c.kind == 3) = false) (h4 : (c.kind == 4) = false) (hb : chkID c.id = true) : Calls Tryz.prog 29 #[cmdV c] w (Ret (strV (eCmd c)) w) := by
  have e0 := okArg_t
  have l0 : (octs [c.kind]).length ≤ 1 * 9 := octs_len (by simpa using hI)
  have l1 := eID_len hb
  have hsum : ¬ (9223372036854775807 < (octs [c.kind]).length + (eID c.id).length) := by omega
  have hc : Hid (eCmd c = octs [c.kind] ++ eID c.id) := by
    simp at h1 h3 h4
    simp [Hid, eCmd, h1, h3, h4, octs]
  have p1 := Lib.hid (fun w => putID_any c.id w hb)
  clear l0 l1
  generalize eID c.id = S1 at p1 hsum hc
  have o1 := Lib.hid (fun (A : Option Addr) w (hr : Rd w 1 A 1 [i64 c.kind]) => octInt_any A 1 1 [c.kind] w hr (by simpa using hI) (by omega))
  clear hI
  generalize octs [c.kind] = S0 at o1 hsum hc
  go_enter Tryz.func29, Tryz.ntmps29
  go_wp2_with (first
    | (go_at_call 61; refine (checkCmd_any c _).mono ?_; rintro e w1 ⟨rfl, hg1⟩; have k := cells_keep hg1 (b := w.heap.size) (by simp) (by simp); have hs1 : w.heap.size < w1.heap.size := (by have := hg1.size; simp at this; omega))
    | (go_at_call 27; refine (o1.out (some ⟨w1.heap.size, 0, none⟩) _ (rd_box w1 _ rfl _ _)).mono ?_; rintro e w2 ⟨rfl, hg2⟩; have k2 := cells_keep hg2 (b := w.heap.size) (by simp; omega) (by simp); have hs2 : w.heap.size < w2.heap.size := (by have := hg2.size; simp at this; omega))
    | (go_at_call 33; refine (p1.out _).mono ?_; rintro e w3 ⟨rfl, hg3⟩))
  go_ret
  exact ⟨by rw [hc.out, ByteArray.mk_append_mk]; rfl, (((((Chg.refl _ _).alloc _).trans hg1).alloc _).trans hg2).trans hg3⟩

set_option maxHeartbeats 4000000 in
set_option maxRecDepth 100000 in
theorem putCmd_3 (c : Cmd) (w : World) (hI : I64 c.kind) (h : chkCmd c = true) (h1 : (c.kind == 1) = false) (h3 : (c.kind == 3) = true) (hb : right c.b = true ∧ chkID c.id = true) : Calls Tryz.prog 29 #[cmdV c] w (Ret (strV (eCmd c)) w) := by
  have e0 := okArg_t
  have l0 : (octs [c.kind]).length ≤ 1 * 9 := octs_len (by simpa using hI)
  have l1 := eID_len hb.2
  have l2 := eParts_len hb.1
  have hsum0 : ¬ (9223372036854775807 < (octs [c.kind]).length + (eID c.id).length) := by omega
  have hsum : ¬ (9223372036854775807 < (octs [c.kind]).length + (eID c.id).length + (eParts c.b).length) := by omega
  have hc : Hid (eCmd c = octs [c.kind] ++ eID c.id ++ eParts c.b) := by
    have : c.kind = 3 := by simpa using h3
    simp [Hid, eCmd, this, octs]
  have p1 := Lib.hid (fun w => putID_any c.id w hb.2)
  have p2 := Lib.hid (fun w => put_any c.b w hb.1)
  clear l0 l1 l2 hb
  generalize eID c.id = S1 at p1 hsum0 hsum hc
  generalize eParts c.b = S2 at p2 hsum hc
  have o1 := Lib.hid (fun (A : Option Addr) w (hr : Rd w 1 A 1 [i64 c.kind]) => octInt_any A 1 1 [c.kind] w hr (by simpa using hI) (by omega))
  clear hI
  generalize octs [c.kind] = S0 at o1 hsum0 hsum hc
  go_enter Tryz.func29, Tryz.ntmps29
  go_wp2_with (first
    | (go_at_call 61; refine (checkCmd_any c _).mono ?_; rintro e w1 ⟨rfl, hg1⟩; have k := cells_keep hg1 (b := w.heap.size) (by simp) (by simp); have hs1 : w.heap.size < w1.heap.size := (by have := hg1.size; simp at this; omega))
    | (go_at_call 27; refine (o1.out (some ⟨w1.heap.size, 0, none⟩) _ (rd_box w1 _ rfl _ _)).mono ?_; rintro e w2 ⟨rfl, hg2⟩; have k2 := cells_keep hg2 (b := w.heap.size) (by simp; omega) (by simp); have hs2 : w.heap.size < w2.heap.size := (by have := hg2.size; simp at this; omega))
    | fail)
  go_region_with (first
    | (go_at_call 33; refine (p1.out _).mono ?_; rintro e w3 ⟨rfl, hg3⟩; have k3 := cells_keep hg3 (b := w.heap.size) (by simpa using hs2) (by simp))
    | (go_at_call 69; refine (p2.out _).mono ?_; rintro e w4 ⟨rfl, hg4⟩))
  all_goals (
    go_wp2_with fail
    go_ret
    exact ⟨by rw [hc.out, ByteArray.mk_append_mk, ByteArray.mk_append_mk]; rfl, (((((Chg.refl _ _).alloc _).trans hg1).alloc _).trans hg2).drew.trans (hg3.trans hg4)⟩)

end Go.Proofs.YtofnehgjkdcmnaaGreatDoor

/- The walk of codec.PutCmd, its kind 4, and all kinds. -/
namespace Go.Proofs.YtofnehgjkdcmnaaGreatDoor
open Go.RowKit Hg

set_option maxHeartbeats 4000000 in
set_option maxRecDepth 100000 in
theorem putCmd_4 (c : Cmd) (w : World) (hI : I64 c.kind) (h : chkCmd c = true) (h1 : (c.kind == 1) = false) (h3 : (c.kind == 3) = false) (h4 : (c.kind == 4) = true) (hb : I64 c.mask ∧ chkID c.id = true) : Calls Tryz.prog 29 #[cmdV c] w (Ret (strV (eCmd c)) w) := by
  have e0 := okArg_t
  have l0 : (octs [c.kind]).length ≤ 1 * 9 := octs_len (by simpa using hI)
  have l1 := eID_len hb.2
  have l2 : (octs [c.mask]).length ≤ 1 * 9 := octs_len (by simpa using hb.1)
  have hsum0 : ¬ (9223372036854775807 < (octs [c.kind]).length + (eID c.id).length) := by omega
  have hsum : ¬ (9223372036854775807 < (octs [c.kind]).length + (eID c.id).length + (octs [c.mask]).length) := by omega
  have hc : Hid (eCmd c = octs [c.kind] ++ eID c.id ++ octs [c.mask]) := by
    have : c.kind = 4 := by simpa using h4
    simp [Hid, eCmd, this, octs]
  have p1 := Lib.hid (fun w => putID_any c.id w hb.2)
  have p2 := Lib.hid (fun (A : Option Addr) w (hr : Rd w 1 A 1 [i64 c.mask]) => octInt_any A 1 1 [c.mask] w hr (by simpa using hb.1) (by omega))
  clear l0 l1 l2 hb
  generalize eID c.id = S1 at p1 hsum0 hsum hc
  generalize octs [c.mask] = S2 at p2 hsum hc
  have o1 := Lib.hid (fun (A : Option Addr) w (hr : Rd w 1 A 1 [i64 c.kind]) => octInt_any A 1 1 [c.kind] w hr (by simpa using hI) (by omega))
  clear hI
  generalize octs [c.kind] = S0 at o1 hsum0 hsum hc
  go_enter Tryz.func29, Tryz.ntmps29
  go_wp2_with (first
    | (go_at_call 61; refine (checkCmd_any c _).mono ?_; rintro e w1 ⟨rfl, hg1⟩; have k := cells_keep hg1 (b := w.heap.size) (by simp) (by simp); have hs1 : w.heap.size < w1.heap.size := (by have := hg1.size; simp at this; omega))
    | (go_at_call 27; refine (o1.out (some ⟨w1.heap.size, 0, none⟩) _ (rd_box w1 _ rfl _ _)).mono ?_; rintro e w2 ⟨rfl, hg2⟩; have k2 := cells_keep hg2 (b := w.heap.size) (by simp; omega) (by simp); have hs2 : w.heap.size < w2.heap.size := (by have := hg2.size; simp at this; omega))
    | fail)
  go_region_with (first
    | (go_at_call 33; refine (p1.out _).mono ?_; rintro e w3 ⟨rfl, hg3⟩; have k3 := cells_keep hg3 (b := w.heap.size) (by simp; omega) (by simp))
    | (go_at_call 27; refine (p2.out _ _ (by first | exact rd_box w3 _ rfl _ _ | exact ((rd_box w2 _ rfl _ _).drew.new_ hg3))).mono ?_; rintro e w4 ⟨rfl, hg4⟩))
  all_goals (
    go_wp2_with fail
    go_ret
    exact ⟨by rw [hc.out, ByteArray.mk_append_mk, ByteArray.mk_append_mk]; rfl, by
      have hc0 := ((((Chg.refl [] w).alloc _).trans hg1).alloc _).trans hg2
      first | exact ((hc0.drew.trans hg3).alloc _).trans hg4 | exact (hc0.alloc _).drew.trans (hg3.trans hg4)⟩)

theorem putCmd_any (c : Cmd) (w : World) (h : chkCmd c = true) : Calls Tryz.prog 29 #[cmdV c] w (Ret (strV (eCmd c)) w) := by
  have hI : I64 c.kind := by rcases chkCmd_kind h with e | e | e | e <;> rw [e] <;> simp [I64]
  rcases chkCmd_kind h with e | e | e | e
  · exact putCmd_1 c w hI h (by simp [e]) (chkCmd_1 h e)
  · exact putCmd_3 c w hI h (by simp [e]) (by simp [e]) (chkCmd_3 h e)
  · exact putCmd_4 c w hI h (by simp [e]) (by simp [e]) (by simp [e]) (chkCmd_4 h e)
  · exact putCmd_2 c w hI h (by simp [e]) (by simp [e]) (by simp [e]) (chkCmd_2 h e)

end Go.Proofs.YtofnehgjkdcmnaaGreatDoor

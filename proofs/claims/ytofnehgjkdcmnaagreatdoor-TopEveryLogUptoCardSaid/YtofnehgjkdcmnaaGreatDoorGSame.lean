/- The walks of SameCmds, parts' Same and SameIDs, at two lists that are the same. (made by a small program) -/
import Derived.Deep.QuietTactic
import Derived.BigQuiet
import Derived.Test.YtofnehgjkdcmnaaGreatDoorGCmd
import Derived.Test.YtofnehgjkdcmnaaGreatDoorGLst
import Derived.Test.YtofnehgjkdcmnaaGreatDoorGCm
namespace Go.Proofs.YtofnehgjkdcmnaaGreatDoor
open Go.RowKit Hg

theorem neq_cmd_self (x : Cmd) (w : World) : (binOp .neq 77 (.agg #[i64 x.kind, i64 x.id.shard, i64 x.id.index, i64 x.id.gen, i64 x.b.id.shard, i64 x.b.id.index, i64 x.b.id.gen, i64 x.b.mask, i64 x.b.x, i64 x.b.y, i64 x.b.vx, i64 x.b.vy, i64 x.b.hp, i64 x.b.power, i64 x.b.left, i64 x.mask]) (.agg #[i64 x.kind, i64 x.id.shard, i64 x.id.index, i64 x.id.gen, i64 x.b.id.shard, i64 x.b.id.index, i64 x.b.id.gen, i64 x.b.mask, i64 x.b.x, i64 x.b.y, i64 x.b.vx, i64 x.b.vy, i64 x.b.hp, i64 x.b.power, i64 x.b.left, i64 x.mask])).run Tryz.prog w = .ok (.bool false) w := by
  have := neq_cmd x x w
  simpa using this

set_option maxHeartbeats 4000000 in
set_option maxRecDepth 100000 in
theorem sameCmds_any (S1 S2 : Option Addr) (n c1 c2 : Nat) (l : List Cmd) (w : World) (h1 : Rd w 16 S1 n (l.flatMap cmdC)) (h2 : Rd w 16 S2 n (l.flatMap cmdC)) (hl : l.length = n) (hn : n ≤ 4611686018427387904) :
    Calls Tryz.prog 46 #[.slice S1 n c1, .slice S2 n c2] w (Ret (.bool true) w) := by
  go_enter Tryz.func46, Tryz.ntmps46
  go_wp2_with fail
  go_loopw [5] (fun i wr => ∃ k : Nat, k ≤ n ∧ i = .int .i64 k ∧ Chg [] w wr) (fun i _ => n - (intOf i).toNat)
  case atStart => exact ⟨0, by omega, rfl, Chg.refl _ _⟩
  case round =>
    obtain ⟨k, hk, rfl, hC⟩ := hrel
    rcases Nat.lt_or_ge k n with hlt | hge
    · obtain ⟨a1, rfl, e1⟩ := rd_elem (size := 16) (enc := cmdC) (fun _ => rfl) (h1.new_ hC) hl (List.getElem?_eq_getElem (by omega : k < l.length))
      obtain ⟨a2, rfl, e2⟩ := rd_elem (size := 16) (enc := cmdC) (fun _ => rfl) (h2.new_ hC) hl (List.getElem?_eq_getElem (by omega : k < l.length))
      generalize l[k]'(by omega) = x at e1 e2
      have c0 : wr.cell? (a1.add (k * 16)) = some (i64 x.kind) := by have := e1 0 _ rfl; simpa [Addr.add] using this
      have c1 : wr.cell? ⟨(a1.add (k * 16)).block, (a1.add (k * 16)).off + 1, none⟩ = some (i64 x.id.shard) := e1 1 _ rfl
      have c2 : wr.cell? ⟨(a1.add (k * 16)).block, (a1.add (k * 16)).off + 2, none⟩ = some (i64 x.id.index) := e1 2 _ rfl
      have c3 : wr.cell? ⟨(a1.add (k * 16)).block, (a1.add (k * 16)).off + 3, none⟩ = some (i64 x.id.gen) := e1 3 _ rfl
      have c4 : wr.cell? ⟨(a1.add (k * 16)).block, (a1.add (k * 16)).off + 4, none⟩ = some (i64 x.b.id.shard) := e1 4 _ rfl
      have c5 : wr.cell? ⟨(a1.add (k * 16)).block, (a1.add (k * 16)).off + 5, none⟩ = some (i64 x.b.id.index) := e1 5 _ rfl
      have c6 : wr.cell? ⟨(a1.add (k * 16)).block, (a1.add (k * 16)).off + 6, none⟩ = some (i64 x.b.id.gen) := e1 6 _ rfl
      have c7 : wr.cell? ⟨(a1.add (k * 16)).block, (a1.add (k * 16)).off + 7, none⟩ = some (i64 x.b.mask) := e1 7 _ rfl
      have c8 : wr.cell? ⟨(a1.add (k * 16)).block, (a1.add (k * 16)).off + 8, none⟩ = some (i64 x.b.x) := e1 8 _ rfl
      have c9 : wr.cell? ⟨(a1.add (k * 16)).block, (a1.add (k * 16)).off + 9, none⟩ = some (i64 x.b.y) := e1 9 _ rfl
      have c10 : wr.cell? ⟨(a1.add (k * 16)).block, (a1.add (k * 16)).off + 10, none⟩ = some (i64 x.b.vx) := e1 10 _ rfl
      have c11 : wr.cell? ⟨(a1.add (k * 16)).block, (a1.add (k * 16)).off + 11, none⟩ = some (i64 x.b.vy) := e1 11 _ rfl
      have c12 : wr.cell? ⟨(a1.add (k * 16)).block, (a1.add (k * 16)).off + 12, none⟩ = some (i64 x.b.hp) := e1 12 _ rfl
      have c13 : wr.cell? ⟨(a1.add (k * 16)).block, (a1.add (k * 16)).off + 13, none⟩ = some (i64 x.b.power) := e1 13 _ rfl
      have c14 : wr.cell? ⟨(a1.add (k * 16)).block, (a1.add (k * 16)).off + 14, none⟩ = some (i64 x.b.left) := e1 14 _ rfl
      have c15 : wr.cell? ⟨(a1.add (k * 16)).block, (a1.add (k * 16)).off + 15, none⟩ = some (i64 x.mask) := e1 15 _ rfl
      have d0 : wr.cell? (a2.add (k * 16)) = some (i64 x.kind) := by have := e2 0 _ rfl; simpa [Addr.add] using this
      have d1 : wr.cell? ⟨(a2.add (k * 16)).block, (a2.add (k * 16)).off + 1, none⟩ = some (i64 x.id.shard) := e2 1 _ rfl
      have d2 : wr.cell? ⟨(a2.add (k * 16)).block, (a2.add (k * 16)).off + 2, none⟩ = some (i64 x.id.index) := e2 2 _ rfl
      have d3 : wr.cell? ⟨(a2.add (k * 16)).block, (a2.add (k * 16)).off + 3, none⟩ = some (i64 x.id.gen) := e2 3 _ rfl
      have d4 : wr.cell? ⟨(a2.add (k * 16)).block, (a2.add (k * 16)).off + 4, none⟩ = some (i64 x.b.id.shard) := e2 4 _ rfl
      have d5 : wr.cell? ⟨(a2.add (k * 16)).block, (a2.add (k * 16)).off + 5, none⟩ = some (i64 x.b.id.index) := e2 5 _ rfl
      have d6 : wr.cell? ⟨(a2.add (k * 16)).block, (a2.add (k * 16)).off + 6, none⟩ = some (i64 x.b.id.gen) := e2 6 _ rfl
      have d7 : wr.cell? ⟨(a2.add (k * 16)).block, (a2.add (k * 16)).off + 7, none⟩ = some (i64 x.b.mask) := e2 7 _ rfl
      have d8 : wr.cell? ⟨(a2.add (k * 16)).block, (a2.add (k * 16)).off + 8, none⟩ = some (i64 x.b.x) := e2 8 _ rfl
      have d9 : wr.cell? ⟨(a2.add (k * 16)).block, (a2.add (k * 16)).off + 9, none⟩ = some (i64 x.b.y) := e2 9 _ rfl
      have d10 : wr.cell? ⟨(a2.add (k * 16)).block, (a2.add (k * 16)).off + 10, none⟩ = some (i64 x.b.vx) := e2 10 _ rfl
      have d11 : wr.cell? ⟨(a2.add (k * 16)).block, (a2.add (k * 16)).off + 11, none⟩ = some (i64 x.b.vy) := e2 11 _ rfl
      have d12 : wr.cell? ⟨(a2.add (k * 16)).block, (a2.add (k * 16)).off + 12, none⟩ = some (i64 x.b.hp) := e2 12 _ rfl
      have d13 : wr.cell? ⟨(a2.add (k * 16)).block, (a2.add (k * 16)).off + 13, none⟩ = some (i64 x.b.power) := e2 13 _ rfl
      have d14 : wr.cell? ⟨(a2.add (k * 16)).block, (a2.add (k * 16)).off + 14, none⟩ = some (i64 x.b.left) := e2 14 _ rfl
      have d15 : wr.cell? ⟨(a2.add (k * 16)).block, (a2.add (k * 16)).off + 15, none⟩ = some (i64 x.mask) := e2 15 _ rfl
      have hne := neq_cmd_self x
      have HC := Lib.hid hC
      have b0 : (0 : Int) ≤ (k : Int) := by omega
      have b1 : (k : Int) < (n : Int) := by omega
      clear h1 h2 hl e1 e2 hC
      go_wp2_with fail
      go_quiet (fail)
      rename_i nq
      have hC2 := HC.out.drewN nq
      clear hne c0 d0 c1 d1 c2 d2 c3 d3 c4 d4 c5 d5 c6 d6 c7 d7 c8 d8 c9 d9 c10 d10 c11 d11 c12 d12 c13 d13 c14 d14 c15 d15
      go_wp2_with fail
      go_roundw
      case rel => exact ⟨k + 1, by omega, by go_num, hC2⟩
      case measure => simp [intOf]; omega
    · have : k = n := by omega
      subst this
      go_wp2_with fail
      go_ret
      exact ⟨rfl, hC⟩

theorem neq_bun_self (x : Bun) (w : World) : (binOp .neq 75 (.agg #[i64 x.id.shard, i64 x.id.index, i64 x.id.gen, i64 x.mask, i64 x.x, i64 x.y, i64 x.vx, i64 x.vy, i64 x.hp, i64 x.power, i64 x.left]) (.agg #[i64 x.id.shard, i64 x.id.index, i64 x.id.gen, i64 x.mask, i64 x.x, i64 x.y, i64 x.vx, i64 x.vy, i64 x.hp, i64 x.power, i64 x.left])).run Tryz.prog w = .ok (.bool false) w := by
  have := neq_bun x x w
  simpa using this

set_option maxHeartbeats 4000000 in
set_option maxRecDepth 100000 in
theorem sameBuns_any (S1 S2 : Option Addr) (n c1 c2 : Nat) (l : List Bun) (w : World) (h1 : Rd w 11 S1 n (l.flatMap bunC)) (h2 : Rd w 11 S2 n (l.flatMap bunC)) (hl : l.length = n) (hn : n ≤ 4611686018427387904) :
    Calls Tryz.prog 47 #[.slice S1 n c1, .slice S2 n c2] w (Ret (.bool true) w) := by
  go_enter Tryz.func47, Tryz.ntmps47
  go_wp2_with fail
  go_loopw [5] (fun i wr => ∃ k : Nat, k ≤ n ∧ i = .int .i64 k ∧ Chg [] w wr) (fun i _ => n - (intOf i).toNat)
  case atStart => exact ⟨0, by omega, rfl, Chg.refl _ _⟩
  case round =>
    obtain ⟨k, hk, rfl, hC⟩ := hrel
    rcases Nat.lt_or_ge k n with hlt | hge
    · obtain ⟨a1, rfl, e1⟩ := rd_elem (size := 11) (enc := bunC) (fun _ => rfl) (h1.new_ hC) hl (List.getElem?_eq_getElem (by omega : k < l.length))
      obtain ⟨a2, rfl, e2⟩ := rd_elem (size := 11) (enc := bunC) (fun _ => rfl) (h2.new_ hC) hl (List.getElem?_eq_getElem (by omega : k < l.length))
      generalize l[k]'(by omega) = x at e1 e2
      have c0 : wr.cell? (a1.add (k * 11)) = some (i64 x.id.shard) := by have := e1 0 _ rfl; simpa [Addr.add] using this
      have c1 : wr.cell? ⟨(a1.add (k * 11)).block, (a1.add (k * 11)).off + 1, none⟩ = some (i64 x.id.index) := e1 1 _ rfl
      have c2 : wr.cell? ⟨(a1.add (k * 11)).block, (a1.add (k * 11)).off + 2, none⟩ = some (i64 x.id.gen) := e1 2 _ rfl
      have c3 : wr.cell? ⟨(a1.add (k * 11)).block, (a1.add (k * 11)).off + 3, none⟩ = some (i64 x.mask) := e1 3 _ rfl
      have c4 : wr.cell? ⟨(a1.add (k * 11)).block, (a1.add (k * 11)).off + 4, none⟩ = some (i64 x.x) := e1 4 _ rfl
      have c5 : wr.cell? ⟨(a1.add (k * 11)).block, (a1.add (k * 11)).off + 5, none⟩ = some (i64 x.y) := e1 5 _ rfl
      have c6 : wr.cell? ⟨(a1.add (k * 11)).block, (a1.add (k * 11)).off + 6, none⟩ = some (i64 x.vx) := e1 6 _ rfl
      have c7 : wr.cell? ⟨(a1.add (k * 11)).block, (a1.add (k * 11)).off + 7, none⟩ = some (i64 x.vy) := e1 7 _ rfl
      have c8 : wr.cell? ⟨(a1.add (k * 11)).block, (a1.add (k * 11)).off + 8, none⟩ = some (i64 x.hp) := e1 8 _ rfl
      have c9 : wr.cell? ⟨(a1.add (k * 11)).block, (a1.add (k * 11)).off + 9, none⟩ = some (i64 x.power) := e1 9 _ rfl
      have c10 : wr.cell? ⟨(a1.add (k * 11)).block, (a1.add (k * 11)).off + 10, none⟩ = some (i64 x.left) := e1 10 _ rfl
      have d0 : wr.cell? (a2.add (k * 11)) = some (i64 x.id.shard) := by have := e2 0 _ rfl; simpa [Addr.add] using this
      have d1 : wr.cell? ⟨(a2.add (k * 11)).block, (a2.add (k * 11)).off + 1, none⟩ = some (i64 x.id.index) := e2 1 _ rfl
      have d2 : wr.cell? ⟨(a2.add (k * 11)).block, (a2.add (k * 11)).off + 2, none⟩ = some (i64 x.id.gen) := e2 2 _ rfl
      have d3 : wr.cell? ⟨(a2.add (k * 11)).block, (a2.add (k * 11)).off + 3, none⟩ = some (i64 x.mask) := e2 3 _ rfl
      have d4 : wr.cell? ⟨(a2.add (k * 11)).block, (a2.add (k * 11)).off + 4, none⟩ = some (i64 x.x) := e2 4 _ rfl
      have d5 : wr.cell? ⟨(a2.add (k * 11)).block, (a2.add (k * 11)).off + 5, none⟩ = some (i64 x.y) := e2 5 _ rfl
      have d6 : wr.cell? ⟨(a2.add (k * 11)).block, (a2.add (k * 11)).off + 6, none⟩ = some (i64 x.vx) := e2 6 _ rfl
      have d7 : wr.cell? ⟨(a2.add (k * 11)).block, (a2.add (k * 11)).off + 7, none⟩ = some (i64 x.vy) := e2 7 _ rfl
      have d8 : wr.cell? ⟨(a2.add (k * 11)).block, (a2.add (k * 11)).off + 8, none⟩ = some (i64 x.hp) := e2 8 _ rfl
      have d9 : wr.cell? ⟨(a2.add (k * 11)).block, (a2.add (k * 11)).off + 9, none⟩ = some (i64 x.power) := e2 9 _ rfl
      have d10 : wr.cell? ⟨(a2.add (k * 11)).block, (a2.add (k * 11)).off + 10, none⟩ = some (i64 x.left) := e2 10 _ rfl
      have hne := neq_bun_self x
      have HC := Lib.hid hC
      have b0 : (0 : Int) ≤ (k : Int) := by omega
      have b1 : (k : Int) < (n : Int) := by omega
      clear h1 h2 hl e1 e2 hC
      go_wp2_with fail
      go_quiet (fail)
      rename_i nq
      have hC2 := HC.out.drewN nq
      clear hne c0 d0 c1 d1 c2 d2 c3 d3 c4 d4 c5 d5 c6 d6 c7 d7 c8 d8 c9 d9 c10 d10
      go_wp2_with fail
      go_roundw
      case rel => exact ⟨k + 1, by omega, by go_num, hC2⟩
      case measure => simp [intOf]; omega
    · have : k = n := by omega
      subst this
      go_wp2_with fail
      go_ret
      exact ⟨rfl, hC⟩

theorem neq_id_self (x : ID) (w : World) : (binOp .neq 73 (.agg #[i64 x.shard, i64 x.index, i64 x.gen]) (.agg #[i64 x.shard, i64 x.index, i64 x.gen])).run Tryz.prog w = .ok (.bool false) w := by
  have := neq_id x x w
  simpa using this

set_option maxHeartbeats 4000000 in
set_option maxRecDepth 100000 in
theorem sameIDs_any (S1 S2 : Option Addr) (n c1 c2 : Nat) (l : List ID) (w : World) (h1 : Rd w 3 S1 n (l.flatMap idC)) (h2 : Rd w 3 S2 n (l.flatMap idC)) (hl : l.length = n) (hn : n ≤ 4611686018427387904) :
    Calls Tryz.prog 48 #[.slice S1 n c1, .slice S2 n c2] w (Ret (.bool true) w) := by
  go_enter Tryz.func48, Tryz.ntmps48
  go_wp2_with fail
  go_loopw [5] (fun i wr => ∃ k : Nat, k ≤ n ∧ i = .int .i64 k ∧ Chg [] w wr) (fun i _ => n - (intOf i).toNat)
  case atStart => exact ⟨0, by omega, rfl, Chg.refl _ _⟩
  case round =>
    obtain ⟨k, hk, rfl, hC⟩ := hrel
    rcases Nat.lt_or_ge k n with hlt | hge
    · obtain ⟨a1, rfl, e1⟩ := rd_elem (size := 3) (enc := idC) (fun _ => rfl) (h1.new_ hC) hl (List.getElem?_eq_getElem (by omega : k < l.length))
      obtain ⟨a2, rfl, e2⟩ := rd_elem (size := 3) (enc := idC) (fun _ => rfl) (h2.new_ hC) hl (List.getElem?_eq_getElem (by omega : k < l.length))
      generalize l[k]'(by omega) = x at e1 e2
      have c0 : wr.cell? (a1.add (k * 3)) = some (i64 x.shard) := by have := e1 0 _ rfl; simpa [Addr.add] using this
      have c1 : wr.cell? ⟨(a1.add (k * 3)).block, (a1.add (k * 3)).off + 1, none⟩ = some (i64 x.index) := e1 1 _ rfl
      have c2 : wr.cell? ⟨(a1.add (k * 3)).block, (a1.add (k * 3)).off + 2, none⟩ = some (i64 x.gen) := e1 2 _ rfl
      have d0 : wr.cell? (a2.add (k * 3)) = some (i64 x.shard) := by have := e2 0 _ rfl; simpa [Addr.add] using this
      have d1 : wr.cell? ⟨(a2.add (k * 3)).block, (a2.add (k * 3)).off + 1, none⟩ = some (i64 x.index) := e2 1 _ rfl
      have d2 : wr.cell? ⟨(a2.add (k * 3)).block, (a2.add (k * 3)).off + 2, none⟩ = some (i64 x.gen) := e2 2 _ rfl
      have hne := neq_id_self x
      have HC := Lib.hid hC
      have b0 : (0 : Int) ≤ (k : Int) := by omega
      have b1 : (k : Int) < (n : Int) := by omega
      clear h1 h2 hl e1 e2 hC
      go_wp2_with fail
      go_quiet (fail)
      rename_i nq
      have hC2 := HC.out.drewN nq
      clear hne c0 d0 c1 d1 c2 d2
      go_wp2_with fail
      go_roundw
      case rel => exact ⟨k + 1, by omega, by go_num, hC2⟩
      case measure => simp [intOf]; omega
    · have : k = n := by omega
      subst this
      go_wp2_with fail
      go_ret
      exact ⟨rfl, hC⟩


set_option maxHeartbeats 4000000 in
set_option maxRecDepth 100000 in
theorem same_any (m : Msg) (s1 s2 s3 t1 t2 t3 : Option Addr × Nat) (w : World) (h : MsgIn w m s1 s2 s3) (g : MsgIn w m t1 t2 t3) :
    Calls Tryz.prog 12 #[msgV m s1 s2 s3, msgV m t1 t2 t3] w (Ret (.bool true) w) := by
  have C1 := Lib.hid (fun w' (hg : Chg [] w w') => sameCmds_any s1.1 t1.1 m.cmds.length s1.2 t1.2 m.cmds w' (h.cmds.new_ hg) (g.cmds.new_ hg) rfl h.len.1)
  have C2 := Lib.hid (fun w' (hg : Chg [] w w') => sameBuns_any s2.1 t2.1 m.buns.length s2.2 t2.2 m.buns w' (h.buns.new_ hg) (g.buns.new_ hg) rfl h.len.2.1)
  have C3 := Lib.hid (fun w' (hg : Chg [] w w') => sameIDs_any s3.1 t3.1 m.ids.length s3.2 t3.2 m.ids w' (h.ids.new_ hg) (g.ids.new_ hg) rfl h.len.2.2)
  clear h g
  go_enter Tryz.func12, Tryz.ntmps12
  go_wp2_with fail
  have hB := ((Chg.refl [] w).alloc (.cells #[i64 m.kind, i64 m.t, i64 m.n, .slice s1.1 m.cmds.length s1.2, .slice s2.1 m.buns.length s2.2, .slice s3.1 m.ids.length s3.2] 38)).alloc (.cells #[i64 m.kind, i64 m.t, i64 m.n, .slice t1.1 m.cmds.length t1.2, .slice t2.1 m.buns.length t2.2, .slice t3.1 m.ids.length t3.2] 38)
  have hX : Blk ((w.alloc (.cells #[i64 m.kind, i64 m.t, i64 m.n, .slice s1.1 m.cmds.length s1.2, .slice s2.1 m.buns.length s2.2, .slice s3.1 m.ids.length s3.2] 38)).alloc (.cells #[i64 m.kind, i64 m.t, i64 m.n, .slice t1.1 m.cmds.length t1.2, .slice t2.1 m.buns.length t2.2, .slice t3.1 m.ids.length t3.2] 38)) w.heap.size 38 _ := (Blk.new w _ _).alloc _
  have hY : Blk ((w.alloc (.cells #[i64 m.kind, i64 m.t, i64 m.n, .slice s1.1 m.cmds.length s1.2, .slice s2.1 m.buns.length s2.2, .slice s3.1 m.ids.length s3.2] 38)).alloc (.cells #[i64 m.kind, i64 m.t, i64 m.n, .slice t1.1 m.cmds.length t1.2, .slice t2.1 m.buns.length t2.2, .slice t3.1 m.ids.length t3.2] 38)) (w.heap.size + 1) 38 #[i64 m.kind, i64 m.t, i64 m.n, .slice t1.1 m.cmds.length t1.2, .slice t2.1 m.buns.length t2.2, .slice t3.1 m.ids.length t3.2] := by
    have e : w.heap.size + 1 = (w.alloc (.cells #[i64 m.kind, i64 m.t, i64 m.n, .slice s1.1 m.cmds.length s1.2, .slice s2.1 m.buns.length s2.2, .slice s3.1 m.ids.length s3.2] 38)).heap.size := by simp
    rw [e]; exact Blk.new _ _ _
  (with_reducible refine (C1.out _ hB).mono ?_)
  rintro e w1 ⟨rfl, hg1⟩
  have kx := fun j => (hX.chg hg1 (by simp)).cell j
  have ky := fun j => (hY.chg hg1 (by simp)).cell j
  have HB1 := Lib.hid (hB.trans hg1)
  have HX1 := Lib.hid (hX.chg hg1 (by simp))
  have HY1 := Lib.hid (hY.chg hg1 (by simp))
  clear hB hX hY hg1 C1
  go_wp2_with fail
  (with_reducible refine (C2.out _ HB1.out).mono ?_)
  rintro e w2 ⟨rfl, hg2⟩
  have HB2 := Lib.hid (HB1.out.trans hg2)
  have hX2 := HX1.out.chg hg2 (by simp)
  have hY2 := HY1.out.chg hg2 (by simp)
  clear kx ky hg2 C2 HB1 HX1 HY1
  have kx := fun j => hX2.cell j
  have ky := fun j => hY2.cell j
  clear hX2 hY2
  go_wp2_with fail
  (with_reducible refine (C3.out _ HB2.out).mono ?_)
  rintro e w3 ⟨rfl, hg3⟩
  have HB3 := Lib.hid (HB2.out.trans hg3)
  clear kx ky hg3 C3 HB2
  go_wp2_with fail
  go_ret
  exact ⟨rfl, HB3.out⟩
end Go.Proofs.YtofnehgjkdcmnaaGreatDoor

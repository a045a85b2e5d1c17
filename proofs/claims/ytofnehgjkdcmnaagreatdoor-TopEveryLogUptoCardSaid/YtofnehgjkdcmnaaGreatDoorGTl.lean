/- The walk of codec.TakeList at ID. (made by a small program) -/
import Derived.Test.YtofnehgjkdcmnaaGreatDoorGLst
import Derived.Test.YtofnehgjkdcmnaaGreatDoorGTkC2
import Derived.Deep.AppendLies
import Derived.Test.YtofnehgjkdcmnaaGreatDoorGTkI
import Derived.Test.YtofnehgjkdcmnaaGreatDoorGTkB
namespace Go.Proofs.YtofnehgjkdcmnaaGreatDoor
open Go.RowKit Hg

theorem infoID : (Tryz.prog.info? 73).map (fun i => (i.zero, i.size, i.bytes)) = some (some (.agg #[i64 0, i64 0, i64 0]), 3, 24) := by kernel_rfl

theorem eID_pos (x : ID) : 0 < (eID x).length := by
  simp only [eID, oct, List.length_append, List.length_cons]
  omega

set_option maxHeartbeats 4000000 in
set_option maxRecDepth 100000 in
theorem takeListID_any (most : Nat) (l : List ID) (rest : Bytes) (p : Nat) (w : World) (h : Rdr w p (eList eID l ++ rest)) (hm : l.length ≤ most) (hmost : most ≤ 1024) (hx : ∀ x ∈ l, chkID x = true) (hs : rest.length ≤ 900000000) :
    Calls Tryz.prog 43 #[.pointer (some ⟨p, 0, none⟩), i64 (most : Int), .func (.func 44) #[] #[]] w fun e w' =>
      ∃ v, e = .returned v ∧ w'.ownsRow w.heap.size 73 3 v l.length (l.flatMap idC) ∧ Rdr w' p rest ∧ Chg [p] w w' := by
  obtain ⟨n, hn⟩ : ∃ n, n = l.length := ⟨_, rfl⟩
  have hp := h.lt
  have hE : ∀ j, ((l.drop j).flatMap eID).length ≤ 27648 := fun j => by
    have := flat_len (m := 27) (l := l.drop j) (fun x h => eID_len (hx x (List.mem_of_mem_drop h))) (l.drop j).length
    rw [List.take_length] at this
    have h2 : (l.drop j).length ≤ l.length := by simp
    generalize ((l.drop j).flatMap eID).length = z at this ⊢
    generalize (l.drop j).length = y at this h2; omega
  have h0 : Rdr w p (oct (n : Int) ++ (l.flatMap eID ++ rest)) := by
    have : eList eID l ++ rest = oct (n : Int) ++ (l.flatMap eID ++ rest) := by rw [hn]; simp [eList]
    rw [← this]; exact h
  have b0 : (l.flatMap eID ++ rest).length ≤ 1099511627776 := by
    have h1 := hE 0
    rw [List.drop_zero] at h1
    rw [List.length_append]; generalize (l.flatMap eID).length = q at h1 ⊢; omega
  have T0 := Lib.hid (rCount_any (n : Int) (most : Int) _ p w (by unfold I64; omega) (by omega) (by omega) h0 b0)
  have HN := Lib.hid hn
  clear h h0 b0 hn
  obtain ⟨i0, hi, hz0, hz1, hz2⟩ := info_parts infoID
  go_enter Tryz.func43, Tryz.ntmps43
  go_wp2_with (go_at_call 74; refine T0.out.mono ?_; rintro e w1 ⟨rfl, hr1, hg1⟩)
  clear T0
  go_loopw [7, 11] (fun v i wr => ∃ k : Nat, k ≤ n ∧ i = .int .i64 k ∧ wr.ownsRow w.heap.size 73 3 v k ((l.take k).flatMap idC) ∧ Rdr wr p ((l.drop k).flatMap eID ++ rest) ∧ Chg [p] w wr)
    (fun _ i _ => n - (intOf i).toNat)
  case atStart => exact ⟨0, by omega, rfl, by simpa using World.ownsRow_nil _ _ _ _, by rw [List.drop_zero]; exact hr1, hg1⟩
  case round =>
    obtain ⟨k, hk, rfl, hown, hrd, hCr⟩ := hrel
    clear hr1 hg1
    rcases Nat.lt_or_ge k n with hlt | hge
    · have hkl : k < l.length := by have := HN.out; omega
      have hdr : l.drop k = l[k] :: l.drop (k + 1) := List.drop_eq_getElem_cons hkl
      have htk : Hid ((l.take (k + 1)).flatMap idC = (l.take k).flatMap idC ++ idC l[k]) := by
        have e : l.take (k + 1) = l.take k ++ [l[k]] := by rw [List.take_add_one, List.getElem?_eq_getElem hkl]; rfl
        unfold Hid
        rw [e, List.flatMap_append]; simp
      have hxi := hx _ (List.getElem_mem hkl)
      have hE1 := hE (k + 1)
      rw [hdr, List.flatMap_cons, List.append_assoc] at hrd
      have hpos := eID_pos l[k]
      generalize l[k] = x at hrd htk hxi hpos
      obtain ⟨S2, hS2e⟩ : ∃ S2, (l.drop (k + 1)).flatMap eID = S2 := ⟨_, rfl⟩
      rw [hS2e] at hrd hE1
      have hS2 := Lib.hid hS2e
      clear hS2e
      have hln : (0 < (eID x ++ (S2 ++ rest)).length) = True := by
        have : 0 < (eID x ++ (S2 ++ rest)).length := by rw [List.length_append]; omega
        simp only [eq_iff_iff, iff_true]; omega
      have L1 := Lib.hid (rLeft_any _ p wr hrd)
      have T1 := Lib.hid (takeID_any x (S2 ++ rest) p wr hxi hrd (by rw [List.length_append]; omega))
      generalize (eID x ++ (S2 ++ rest)).length = L at hln L1
      have hR := Lib.hid hrd
      have hO := Lib.hid hown
      have hC := Lib.hid hCr
      clear hrd hown hCr hxi hpos hx hE hE1 hdr
      go_wp2_with (first
        | (go_at_call 75; refine L1.out.mono ?_; rintro e w2 ⟨rfl, rfl⟩)
        | (go_at_call 44; refine T1.out.mono ?_; rintro e w3 ⟨rfl, hr3, hg3⟩)
        | (at_builtin; refine wpList_append_lies _ rfl (.tmp 16) (.tmp 20) 36 rfl w.heap.size 73 i0 _ 3 24 Tryz.underlying36 hi hz0 hz1 hz2 rfl (by decide) _ _ _ rfl ((own_chg hO.out hg3 (by intro q hq; have := (hO.out.lt q hq).1; simp; omega)).alloc _) ⟨w3.heap.size, 0, none⟩ 1 1 [i64 x.shard, i64 x.index, i64 x.gen] rfl rfl ?c1 ?c2 (by omega) ?c3 ?c4 ?c5 _ rfl ?_))
      case c1 => exact World.news_of_block (Blk.new w3 73 #[i64 x.shard, i64 x.index, i64 x.gen])
      case c2 => simp [Value.oneCell']
      case c3 => unfold maxLen; omega
      case c4 => omega
      case c5 => have h1 := hC.out.size; have h2 := hg3.size; simp; omega
      intro g cap w6 hown6 hgrow _ hlt6
      have hpo : ∀ q, u7.ownBlock = some q → p ≠ q := by intro q hq; have := (hO.out.lt q hq).1; omega
      have hR6 : Rdr w6 p (S2 ++ rest) := (hgrow.block p (by have := hr3.lt; simp; omega) (fun e => hpo p e.symm rfl)).trans (Blk.alloc hr3 _)
      have hC6 : Chg [p] w w6 := ((hC.out.trans hg3).alloc (.cells #[i64 x.shard, i64 x.index, i64 x.gen] 73)).then_ (S' := (match u7.ownBlock with | some q => [q] | none => [])) (Chg.of_grown hgrow (fun q e => by rw [e]; simp)) (by
        intro q hq hm
        cases hu : u7.ownBlock with
        | none => rw [hu] at hm; simp at hm
        | some q' =>
          rw [hu] at hm; simp at hm
          have := (hO.out.lt q' hu).1; omega)
      have hown7 : w6.ownsRow w.heap.size 73 3 (.slice (some ⟨g, 0, none⟩) (k + 1) cap) (k + 1) ((l.take (k + 1)).flatMap idC) := by rw [htk.out]; exact hown6
      clear hown6 hgrow hr3 hg3 hR hO hC L1 T1 hln
      have B1 := Lib.hid (bad_any _ p w6 hR6)
      have hR := Lib.hid hR6
      have hO := Lib.hid hown7
      have hC := Lib.hid hC6
      clear hR6 hown7 hC6
      go_wp2_with (go_at_call 76; refine B1.out.mono ?_; rintro e w7 ⟨rfl, rfl⟩)
      go_roundw
      case rel => exact ⟨k + 1, by omega, by go_num, hO.out, by rw [hS2.out]; exact hR.out, hC.out⟩
      case measure => simp [intOf]; omega
    · have : k = n := by omega
      subst this
      go_wp2_with fail
      go_ret
      refine ⟨_, rfl, ?_, ?_, hCr⟩
      · have hn := HN.out
        rw [List.take_of_length_le (by omega), hn] at hown; exact hown
      · rw [List.drop_of_length_le (by have := HN.out; omega)] at hrd; exact hrd
end Go.Proofs.YtofnehgjkdcmnaaGreatDoor

/- The walk of codec.TakeList at Bun. (made by a small program) -/
namespace Go.Proofs.YtofnehgjkdcmnaaGreatDoor
open Go.RowKit Hg

theorem infoBun : (Tryz.prog.info? 75).map (fun i => (i.zero, i.size, i.bytes)) = some (some (.agg #[i64 0, i64 0, i64 0, i64 0, i64 0, i64 0, i64 0, i64 0, i64 0, i64 0, i64 0]), 11, 88) := by kernel_rfl

theorem eBun_pos (x : Bun) : 0 < (eBun x).length := by
  simp only [eBun, eID, eParts, oct, List.length_append, List.length_cons]
  omega

set_option maxHeartbeats 4000000 in
set_option maxRecDepth 100000 in
theorem takeListBun_any (most : Nat) (l : List Bun) (rest : Bytes) (p : Nat) (w : World) (h : Rdr w p (eList eBun l ++ rest)) (hm : l.length ≤ most) (hmost : most ≤ 1024) (hx : ∀ x ∈ l, chkBun x = true) (hs : rest.length ≤ 900000000) :
    Calls Tryz.prog 41 #[.pointer (some ⟨p, 0, none⟩), i64 (most : Int), .func (.func 42) #[] #[]] w fun e w' =>
      ∃ v, e = .returned v ∧ w'.ownsRow w.heap.size 75 11 v l.length (l.flatMap bunC) ∧ Rdr w' p rest ∧ Chg [p] w w' := by
  obtain ⟨n, hn⟩ : ∃ n, n = l.length := ⟨_, rfl⟩
  have hp := h.lt
  have hE : ∀ j, ((l.drop j).flatMap eBun).length ≤ 110592 := fun j => by
    have := flat_len (m := 108) (l := l.drop j) (fun x h => eBun_len (hx x (List.mem_of_mem_drop h))) (l.drop j).length
    rw [List.take_length] at this
    have h2 : (l.drop j).length ≤ l.length := by simp
    generalize ((l.drop j).flatMap eBun).length = z at this ⊢
    generalize (l.drop j).length = y at this h2; omega
  have h0 : Rdr w p (oct (n : Int) ++ (l.flatMap eBun ++ rest)) := by
    have : eList eBun l ++ rest = oct (n : Int) ++ (l.flatMap eBun ++ rest) := by rw [hn]; simp [eList]
    rw [← this]; exact h
  have b0 : (l.flatMap eBun ++ rest).length ≤ 1099511627776 := by
    have h1 := hE 0
    rw [List.drop_zero] at h1
    rw [List.length_append]; generalize (l.flatMap eBun).length = q at h1 ⊢; omega
  have T0 := Lib.hid (rCount_any (n : Int) (most : Int) _ p w (by unfold I64; omega) (by omega) (by omega) h0 b0)
  have HN := Lib.hid hn
  clear h h0 b0 hn
  obtain ⟨i0, hi, hz0, hz1, hz2⟩ := info_parts infoBun
  go_enter Tryz.func41, Tryz.ntmps41
  go_wp2_with (go_at_call 74; refine T0.out.mono ?_; rintro e w1 ⟨rfl, hr1, hg1⟩)
  clear T0
  go_loopw [7, 11] (fun v i wr => ∃ k : Nat, k ≤ n ∧ i = .int .i64 k ∧ wr.ownsRow w.heap.size 75 11 v k ((l.take k).flatMap bunC) ∧ Rdr wr p ((l.drop k).flatMap eBun ++ rest) ∧ Chg [p] w wr)
    (fun _ i _ => n - (intOf i).toNat)
  case atStart => exact ⟨0, by omega, rfl, by simpa using World.ownsRow_nil _ _ _ _, by rw [List.drop_zero]; exact hr1, hg1⟩
  case round =>
    obtain ⟨k, hk, rfl, hown, hrd, hCr⟩ := hrel
    clear hr1 hg1
    rcases Nat.lt_or_ge k n with hlt | hge
    · have hkl : k < l.length := by have := HN.out; omega
      have hdr : l.drop k = l[k] :: l.drop (k + 1) := List.drop_eq_getElem_cons hkl
      have htk : Hid ((l.take (k + 1)).flatMap bunC = (l.take k).flatMap bunC ++ bunC l[k]) := by
        have e : l.take (k + 1) = l.take k ++ [l[k]] := by rw [List.take_add_one, List.getElem?_eq_getElem hkl]; rfl
        unfold Hid
        rw [e, List.flatMap_append]; simp
      have hxi := hx _ (List.getElem_mem hkl)
      have hE1 := hE (k + 1)
      rw [hdr, List.flatMap_cons, List.append_assoc] at hrd
      have hpos := eBun_pos l[k]
      generalize l[k] = x at hrd htk hxi hpos
      obtain ⟨S2, hS2e⟩ : ∃ S2, (l.drop (k + 1)).flatMap eBun = S2 := ⟨_, rfl⟩
      rw [hS2e] at hrd hE1
      have hS2 := Lib.hid hS2e
      clear hS2e
      have hln : (0 < (eBun x ++ (S2 ++ rest)).length) = True := by
        have : 0 < (eBun x ++ (S2 ++ rest)).length := by rw [List.length_append]; omega
        simp only [eq_iff_iff, iff_true]; omega
      have L1 := Lib.hid (rLeft_any _ p wr hrd)
      have T1 := Lib.hid (takeBun_any x (S2 ++ rest) p wr hxi hrd (by rw [List.length_append]; omega))
      generalize (eBun x ++ (S2 ++ rest)).length = L at hln L1
      have hR := Lib.hid hrd
      have hO := Lib.hid hown
      have hC := Lib.hid hCr
      clear hrd hown hCr hxi hpos hx hE hE1 hdr
      go_wp2_with (first
        | (go_at_call 75; refine L1.out.mono ?_; rintro e w2 ⟨rfl, rfl⟩)
        | (go_at_call 42; refine T1.out.mono ?_; rintro e w3 ⟨rfl, hr3, hg3⟩)
        | (at_builtin; refine wpList_append_lies _ rfl (.tmp 16) (.tmp 20) 35 rfl w.heap.size 75 i0 _ 11 88 Tryz.underlying35 hi hz0 hz1 hz2 rfl (by decide) _ _ _ rfl ((own_chg hO.out hg3 (by intro q hq; have := (hO.out.lt q hq).1; simp; omega)).alloc _) ⟨w3.heap.size, 0, none⟩ 1 1 [i64 x.id.shard, i64 x.id.index, i64 x.id.gen, i64 x.mask, i64 x.x, i64 x.y, i64 x.vx, i64 x.vy, i64 x.hp, i64 x.power, i64 x.left] rfl rfl ?c1 ?c2 (by omega) ?c3 ?c4 ?c5 _ rfl ?_))
      case c1 => exact World.news_of_block (Blk.new w3 75 #[i64 x.id.shard, i64 x.id.index, i64 x.id.gen, i64 x.mask, i64 x.x, i64 x.y, i64 x.vx, i64 x.vy, i64 x.hp, i64 x.power, i64 x.left])
      case c2 => simp [Value.oneCell']
      case c3 => unfold maxLen; omega
      case c4 => omega
      case c5 => have h1 := hC.out.size; have h2 := hg3.size; simp; omega
      intro g cap w6 hown6 hgrow _ hlt6
      have hpo : ∀ q, u7.ownBlock = some q → p ≠ q := by intro q hq; have := (hO.out.lt q hq).1; omega
      have hR6 : Rdr w6 p (S2 ++ rest) := (hgrow.block p (by have := hr3.lt; simp; omega) (fun e => hpo p e.symm rfl)).trans (Blk.alloc hr3 _)
      have hC6 : Chg [p] w w6 := ((hC.out.trans hg3).alloc (.cells #[i64 x.id.shard, i64 x.id.index, i64 x.id.gen, i64 x.mask, i64 x.x, i64 x.y, i64 x.vx, i64 x.vy, i64 x.hp, i64 x.power, i64 x.left] 75)).then_ (S' := (match u7.ownBlock with | some q => [q] | none => [])) (Chg.of_grown hgrow (fun q e => by rw [e]; simp)) (by
        intro q hq hm
        cases hu : u7.ownBlock with
        | none => rw [hu] at hm; simp at hm
        | some q' =>
          rw [hu] at hm; simp at hm
          have := (hO.out.lt q' hu).1; omega)
      have hown7 : w6.ownsRow w.heap.size 75 11 (.slice (some ⟨g, 0, none⟩) (k + 1) cap) (k + 1) ((l.take (k + 1)).flatMap bunC) := by rw [htk.out]; exact hown6
      clear hown6 hgrow hr3 hg3 hR hO hC L1 T1 hln
      have B1 := Lib.hid (bad_any _ p w6 hR6)
      have hR := Lib.hid hR6
      have hO := Lib.hid hown7
      have hC := Lib.hid hC6
      clear hR6 hown7 hC6
      go_wp2_with (go_at_call 76; refine B1.out.mono ?_; rintro e w7 ⟨rfl, rfl⟩)
      go_roundw
      case rel => exact ⟨k + 1, by omega, by go_num, hO.out, by rw [hS2.out]; exact hR.out, hC.out⟩
      case measure => simp [intOf]; omega
    · have : k = n := by omega
      subst this
      go_wp2_with fail
      go_ret
      refine ⟨_, rfl, ?_, ?_, hCr⟩
      · have hn := HN.out
        rw [List.take_of_length_le (by omega), hn] at hown; exact hown
      · rw [List.drop_of_length_le (by have := HN.out; omega)] at hrd; exact hrd
end Go.Proofs.YtofnehgjkdcmnaaGreatDoor

/- The walk of codec.TakeList at Cmd. (made by a small program) -/
namespace Go.Proofs.YtofnehgjkdcmnaaGreatDoor
open Go.RowKit Hg

theorem infoCmd : (Tryz.prog.info? 77).map (fun i => (i.zero, i.size, i.bytes)) = some (some (.agg #[i64 0, i64 0, i64 0, i64 0, i64 0, i64 0, i64 0, i64 0, i64 0, i64 0, i64 0, i64 0, i64 0, i64 0, i64 0, i64 0]), 16, 128) := by kernel_rfl

theorem eCmd_pos (x : Cmd) : 0 < (eCmd x).length := by
  simp only [eCmd, eBun, eID, eParts, oct, List.length_append, List.length_cons]
  omega

set_option maxHeartbeats 4000000 in
set_option maxRecDepth 100000 in
theorem takeListCmd_any (most : Nat) (l : List Cmd) (rest : Bytes) (p : Nat) (w : World) (h : Rdr w p (eList eCmd l ++ rest)) (hm : l.length ≤ most) (hmost : most ≤ 1024) (hx : ∀ x ∈ l, chkCmd x = true) (hs : rest.length ≤ 900000000) :
    Calls Tryz.prog 39 #[.pointer (some ⟨p, 0, none⟩), i64 (most : Int), .func (.func 40) #[] #[]] w fun e w' =>
      ∃ v, e = .returned v ∧ w'.ownsRow w.heap.size 77 16 v l.length (l.flatMap cmdC) ∧ Rdr w' p rest ∧ Chg [p] w w' := by
  obtain ⟨n, hn⟩ : ∃ n, n = l.length := ⟨_, rfl⟩
  have hp := h.lt
  have hE : ∀ j, ((l.drop j).flatMap eCmd).length ≤ 119808 := fun j => by
    have := flat_len (m := 117) (l := l.drop j) (fun x h => eCmd_len (hx x (List.mem_of_mem_drop h))) (l.drop j).length
    rw [List.take_length] at this
    have h2 : (l.drop j).length ≤ l.length := by simp
    generalize ((l.drop j).flatMap eCmd).length = z at this ⊢
    generalize (l.drop j).length = y at this h2; omega
  have h0 : Rdr w p (oct (n : Int) ++ (l.flatMap eCmd ++ rest)) := by
    have : eList eCmd l ++ rest = oct (n : Int) ++ (l.flatMap eCmd ++ rest) := by rw [hn]; simp [eList]
    rw [← this]; exact h
  have b0 : (l.flatMap eCmd ++ rest).length ≤ 1099511627776 := by
    have h1 := hE 0
    rw [List.drop_zero] at h1
    rw [List.length_append]; generalize (l.flatMap eCmd).length = q at h1 ⊢; omega
  have T0 := Lib.hid (rCount_any (n : Int) (most : Int) _ p w (by unfold I64; omega) (by omega) (by omega) h0 b0)
  have HN := Lib.hid hn
  clear h h0 b0 hn
  obtain ⟨i0, hi, hz0, hz1, hz2⟩ := info_parts infoCmd
  go_enter Tryz.func39, Tryz.ntmps39
  go_wp2_with (go_at_call 74; refine T0.out.mono ?_; rintro e w1 ⟨rfl, hr1, hg1⟩)
  clear T0
  go_loopw [7, 11] (fun v i wr => ∃ k : Nat, k ≤ n ∧ i = .int .i64 k ∧ wr.ownsRow w.heap.size 77 16 v k ((l.take k).flatMap cmdC) ∧ Rdr wr p ((l.drop k).flatMap eCmd ++ rest) ∧ Chg [p] w wr)
    (fun _ i _ => n - (intOf i).toNat)
  case atStart => exact ⟨0, by omega, rfl, by simpa using World.ownsRow_nil _ _ _ _, by rw [List.drop_zero]; exact hr1, hg1⟩
  case round =>
    obtain ⟨k, hk, rfl, hown, hrd, hCr⟩ := hrel
    clear hr1 hg1
    rcases Nat.lt_or_ge k n with hlt | hge
    · have hkl : k < l.length := by have := HN.out; omega
      have hdr : l.drop k = l[k] :: l.drop (k + 1) := List.drop_eq_getElem_cons hkl
      have htk : Hid ((l.take (k + 1)).flatMap cmdC = (l.take k).flatMap cmdC ++ cmdC l[k]) := by
        have e : l.take (k + 1) = l.take k ++ [l[k]] := by rw [List.take_add_one, List.getElem?_eq_getElem hkl]; rfl
        unfold Hid
        rw [e, List.flatMap_append]; simp
      have hxi := hx _ (List.getElem_mem hkl)
      have hE1 := hE (k + 1)
      rw [hdr, List.flatMap_cons, List.append_assoc] at hrd
      have hpos := eCmd_pos l[k]
      generalize l[k] = x at hrd htk hxi hpos
      obtain ⟨S2, hS2e⟩ : ∃ S2, (l.drop (k + 1)).flatMap eCmd = S2 := ⟨_, rfl⟩
      rw [hS2e] at hrd hE1
      have hS2 := Lib.hid hS2e
      clear hS2e
      have hln : (0 < (eCmd x ++ (S2 ++ rest)).length) = True := by
        have : 0 < (eCmd x ++ (S2 ++ rest)).length := by rw [List.length_append]; omega
        simp only [eq_iff_iff, iff_true]; omega
      have L1 := Lib.hid (rLeft_any _ p wr hrd)
      have T1 := Lib.hid (takeCmd_any x (S2 ++ rest) p wr hxi hrd (by rw [List.length_append]; omega))
      generalize (eCmd x ++ (S2 ++ rest)).length = L at hln L1
      have hR := Lib.hid hrd
      have hO := Lib.hid hown
      have hC := Lib.hid hCr
      clear hrd hown hCr hxi hpos hx hE hE1 hdr
      go_wp2_with (first
        | (go_at_call 75; refine L1.out.mono ?_; rintro e w2 ⟨rfl, rfl⟩)
        | (go_at_call 40; refine T1.out.mono ?_; rintro e w3 ⟨rfl, hr3, hg3⟩)
        | (at_builtin; refine wpList_append_lies _ rfl (.tmp 16) (.tmp 20) 34 rfl w.heap.size 77 i0 _ 16 128 Tryz.underlying34 hi hz0 hz1 hz2 rfl (by decide) _ _ _ rfl ((own_chg hO.out hg3 (by intro q hq; have := (hO.out.lt q hq).1; simp; omega)).alloc _) ⟨w3.heap.size, 0, none⟩ 1 1 [i64 x.kind, i64 x.id.shard, i64 x.id.index, i64 x.id.gen, i64 x.b.id.shard, i64 x.b.id.index, i64 x.b.id.gen, i64 x.b.mask, i64 x.b.x, i64 x.b.y, i64 x.b.vx, i64 x.b.vy, i64 x.b.hp, i64 x.b.power, i64 x.b.left, i64 x.mask] rfl rfl ?c1 ?c2 (by omega) ?c3 ?c4 ?c5 _ rfl ?_))
      case c1 => exact World.news_of_block (Blk.new w3 77 #[i64 x.kind, i64 x.id.shard, i64 x.id.index, i64 x.id.gen, i64 x.b.id.shard, i64 x.b.id.index, i64 x.b.id.gen, i64 x.b.mask, i64 x.b.x, i64 x.b.y, i64 x.b.vx, i64 x.b.vy, i64 x.b.hp, i64 x.b.power, i64 x.b.left, i64 x.mask])
      case c2 => simp [Value.oneCell']
      case c3 => unfold maxLen; omega
      case c4 => omega
      case c5 => have h1 := hC.out.size; have h2 := hg3.size; simp; omega
      intro g cap w6 hown6 hgrow _ hlt6
      have hpo : ∀ q, u7.ownBlock = some q → p ≠ q := by intro q hq; have := (hO.out.lt q hq).1; omega
      have hR6 : Rdr w6 p (S2 ++ rest) := (hgrow.block p (by have := hr3.lt; simp; omega) (fun e => hpo p e.symm rfl)).trans (Blk.alloc hr3 _)
      have hC6 : Chg [p] w w6 := ((hC.out.trans hg3).alloc (.cells #[i64 x.kind, i64 x.id.shard, i64 x.id.index, i64 x.id.gen, i64 x.b.id.shard, i64 x.b.id.index, i64 x.b.id.gen, i64 x.b.mask, i64 x.b.x, i64 x.b.y, i64 x.b.vx, i64 x.b.vy, i64 x.b.hp, i64 x.b.power, i64 x.b.left, i64 x.mask] 77)).then_ (S' := (match u7.ownBlock with | some q => [q] | none => [])) (Chg.of_grown hgrow (fun q e => by rw [e]; simp)) (by
        intro q hq hm
        cases hu : u7.ownBlock with
        | none => rw [hu] at hm; simp at hm
        | some q' =>
          rw [hu] at hm; simp at hm
          have := (hO.out.lt q' hu).1; omega)
      have hown7 : w6.ownsRow w.heap.size 77 16 (.slice (some ⟨g, 0, none⟩) (k + 1) cap) (k + 1) ((l.take (k + 1)).flatMap cmdC) := by rw [htk.out]; exact hown6
      clear hown6 hgrow hr3 hg3 hR hO hC L1 T1 hln
      have B1 := Lib.hid (bad_any _ p w6 hR6)
      have hR := Lib.hid hR6
      have hO := Lib.hid hown7
      have hC := Lib.hid hC6
      clear hR6 hown7 hC6
      go_wp2_with (go_at_call 76; refine B1.out.mono ?_; rintro e w7 ⟨rfl, rfl⟩)
      go_roundw
      case rel => exact ⟨k + 1, by omega, by go_num, hO.out, by rw [hS2.out]; exact hR.out, hC.out⟩
      case measure => simp [intOf]; omega
    · have : k = n := by omega
      subst this
      go_wp2_with fail
      go_ret
      refine ⟨_, rfl, ?_, ?_, hCr⟩
      · have hn := HN.out
        rw [List.take_of_length_le (by omega), hn] at hown; exact hown
      · rw [List.drop_of_length_le (by have := HN.out; omega)] at hrd; exact hrd
end Go.Proofs.YtofnehgjkdcmnaaGreatDoor

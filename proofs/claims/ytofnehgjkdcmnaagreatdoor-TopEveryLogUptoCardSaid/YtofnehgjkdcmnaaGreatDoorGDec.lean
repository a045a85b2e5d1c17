/- The walk of codec.Decode on what Encode makes. (made by a small program) -/
import Derived.Test.YtofnehgjkdcmnaaGreatDoorGEnc
import Derived.Test.YtofnehgjkdcmnaaGreatDoorGTl
import Derived.Laws.ResultCell
namespace Go.Proofs.YtofnehgjkdcmnaaGreatDoor
open Go.RowKit Hg

set_option maxHeartbeats 1000000 in
theorem octOf_any (l : Bytes) (w : World) : Calls Tryz.prog 37 #[strV l] w fun e w' => e = .returned (.pointer (some ⟨w.heap.size, 0, none⟩)) ∧ w.alloc (.cells #[strV l, .bool false] 128) = w' := by
  go_enter Tryz.func37, Tryz.ntmps37
  go_wp2
  go_ret
  exact ⟨rfl, rfl⟩

theorem own_slice {w : World} {base : Nat} {e : TypeId} {size n : Nat} {v : Value} {xs : List Value} (h : w.ownsRow base e size v n xs) : ∃ A c, v = .slice A n c := by
  rcases h.2 with ⟨rfl, rfl⟩ | ⟨g, cap, cur, rfl, _⟩
  · exact ⟨_, _, rfl⟩
  · exact ⟨_, _, rfl⟩

/-- what Decode leaves -/
def DecR (m : Msg) (w : World) (e : Ending) (w' : World) : Prop := ∃ s1 s2 s3, e = .returned (.tuple #[msgV m s1 s2 s3, .int .i64 0]) ∧ MsgIn w' m s1 s2 s3 ∧ Chg [] w w' ∧
  (∀ q, q ∈ blkOf s1.1 ∨ q ∈ blkOf s2.1 ∨ q ∈ blkOf s3.1 → w.heap.size ≤ q ∧ q < w'.heap.size)

theorem own_blk {w : World} {base : Nat} {e : TypeId} {size n c : Nat} {A : Option Addr} {xs : List Value} (h : w.ownsRow base e size (.slice A n c) n xs) : ∀ q, q ∈ blkOf A → base ≤ q ∧ q < w.heap.size := by
  intro q hq
  have := h.lt
  rcases h.2 with ⟨hv, hn⟩ | ⟨g, cap, cur, hv, _⟩
  · injection hv with h1 _ _; subst h1; simp [blkOf] at hq
  · injection hv with h1 _ _; subst h1
    simp [blkOf] at hq
    exact this q (by rw [hq]; rfl)

theorem MsgIn.chg {w w' : World} {m : Msg} {s1 s2 s3 : Option Addr × Nat} {S : List Nat} (h : MsgIn w m s1 s2 s3) (hg : Chg S w w') (h1 : ∀ k ∈ S, k ∉ blkOf s1.1 ∧ k ∉ blkOf s2.1 ∧ k ∉ blkOf s3.1) : MsgIn w' m s1 s2 s3 :=
  ⟨h.cmds.chg hg (fun k hk _ => (h1 k hk).1), h.buns.chg hg (fun k hk _ => (h1 k hk).2.1), h.ids.chg hg (fun k hk _ => (h1 k hk).2.2), h.len⟩

theorem results_cell_tmp_row {P : Program} {fn : Func} {p u : Tmp} {ty : TypeId} (h : fn.results = #[.cell p ty, .tmp u]) (tmps : Array Value) (w : World) (g : Nat) (t : TypeId) (cs : Array Value) (fr : Nat × Nat) (d : TypeDesc)
    (hp : tmps.getD p undef = .pointer (some ⟨g, 0, none⟩)) (hg : w.heap[g]? = some (.cells cs t fr))
    (hu : P.underlying ty = some d) (hd : (match d with | .struct _ | .array _ _ => true | _ => false) = true) (hi : (P.info? ty).map (·.size) = some cs.size) :
    (results fn tmps).run P w = .ok (.tuple #[.agg cs, tmps.getD u undef]) w := by
  rw [results_cell_tmp h, hp]
  simp [asAddr, run_loadVar_row w g t ty cs fr d hg hu hd hi, Result.andThen]

/-- a store of a message whole -/
def setMsg (w : World) (R : Nat) (v0 v1 v2 v3 v4 v5 : Value) : World := ((((((w.setCell ⟨R, 0, none⟩ v0).setCell ⟨R, 1, none⟩ v1).setCell ⟨R, 2, none⟩ v2).setCell ⟨R, 3, none⟩ v3).setCell ⟨R, 4, none⟩ v4).setCell ⟨R, 5, none⟩ v5)
theorem setMsg_chg {S : List Nat} {w0 w : World} {R : Nat} (v0 v1 v2 v3 v4 v5 : Value) (h : Chg S w0 w) (hR : R ∈ S ∨ w0.heap.size ≤ R) : Chg S w0 (setMsg w R v0 v1 v2 v3 v4 v5) := by
  unfold setMsg
  repeat (refine Chg.setCell ?_ hR _)
  exact h
theorem setMsg_blk {w : World} {R : Nat} {t : TypeId} {u0 u1 u2 u3 u4 u5 : Value} (v0 v1 v2 v3 v4 v5 : Value) (h : Blk w R t #[u0, u1, u2, u3, u4, u5]) :
    Blk (setMsg w R v0 v1 v2 v3 v4 v5) R t #[v0, v1, v2, v3, v4, v5] := by
  have h : Blk _ R t #[v0, u1, u2, u3, u4, u5] := h.set_ 0 v0
  have h : Blk _ R t #[v0, v1, u2, u3, u4, u5] := h.set_ 1 v1
  have h : Blk _ R t #[v0, v1, v2, u3, u4, u5] := h.set_ 2 v2
  have h : Blk _ R t #[v0, v1, v2, v3, u4, u5] := h.set_ 3 v3
  have h : Blk _ R t #[v0, v1, v2, v3, v4, u5] := h.set_ 4 v4
  have h : Blk _ R t #[v0, v1, v2, v3, v4, v5] := h.set_ 5 v5
  exact h

set_option maxHeartbeats 4000000 in
set_option maxRecDepth 100000 in
theorem dec_TC (m : Msg) (w : World) (hck : chkMsg m = true) (hI0 : I64 m.kind) (hI1 : I64 m.t) (hlen : m.cmds.length ≤ 4611686018427387904 ∧ m.buns.length ≤ 4611686018427387904 ∧ m.ids.length ≤ 4611686018427387904) (hT : ofT m.kind = true) (hN : ofN m.kind = false) (hC : ofC m.kind = true) (hB : ofB m.kind = false) (hI : ofI m.kind = false) (hL : lst true m.cmds 64 chkCmd = true) (zB : m.buns = []) (zI : m.ids = []) (zn : m.n = 0) :
    Calls Tryz.prog 11 #[strV (eMsg m)] w (DecR m w) := by
  have hc : eMsg m = oct m.kind ++ (oct m.t ++ eList eCmd m.cmds) := by simp [eMsg, hT, hN, hC, hB, hI, Hg.part]
  have e0 := okArg_t
  have l1 : (octs [m.t]).length ≤ 1 * 9 := octs_len (by simpa using hI1)
  rw [octs_one] at l1
  have hx : ∀ x ∈ m.cmds, chkCmd x = true := by simp only [lst, Bool.and_eq_true, List.all_eq_true] at hL; exact hL.2
  have hl : m.cmds.length ≤ 64 := by simp only [lst, Bool.and_eq_true, decide_eq_true_eq] at hL; omega
  have l2 : (eList eCmd m.cmds).length ≤ 9 + 1024 * 117 := eList_len (fun x h => eCmd_len (hx x h)) (by omega)
  have T2 := Lib.hid (fun (w' : World) (h : Rdr w' (w.heap.size + 1) (eList eCmd m.cmds)) => takeListCmd_any 64 m.cmds [] (w.heap.size + 1) w' (by rw [List.append_nil]; exact h) hl (by omega) hx (by simp))
  have b0 : (oct m.t ++ eList eCmd m.cmds).length ≤ 1099511627776 := by rw [List.length_append]; generalize (oct m.t).length = q1 at l1 ⊢; generalize (eList eCmd m.cmds).length = q2 at l2 ⊢; omega
  have b1 : (eList eCmd m.cmds).length ≤ 1099511627776 := by omega
  have H0 : Hid (Rdr ((w.alloc (.cells #[i64 0, i64 0, i64 0, .slice none 0 0, .slice none 0 0, .slice none 0 0] 38)).alloc (.cells #[strV (eMsg m), .bool false] 128)) (w.heap.size + 1) (oct m.kind ++ (oct m.t ++ eList eCmd m.cmds))) := by
    have := Blk.new (w.alloc (.cells #[i64 0, i64 0, i64 0, .slice none 0 0, .slice none 0 0, .slice none 0 0] 38)) 128 #[strV (eMsg m), .bool false]
    rw [World.size_alloc, hc] at this
    rw [hc]
    exact this
  have hcH := Lib.hid hc
  have HI0 := Lib.hid hI0
  have HI1 := Lib.hid hI1
  have hv : ∀ (A : Option Addr) (c : Nat), msgV m (A, c) (none, 0) (none, 0) = .agg #[i64 m.kind, i64 m.t, i64 0, .slice A m.cmds.length c, .slice none 0 0, .slice none 0 0] := by intro A c; simp only [msgV, zB, zI, zn, List.length_nil]
  have HCK : Hid (∀ (A : Option Addr) (c : Nat) (w' : World), MsgIn w' m (A, c) (none, 0) (none, 0) → Calls Tryz.prog 25 #[.agg #[i64 m.kind, i64 m.t, i64 0, .slice A m.cmds.length c, .slice none 0 0, .slice none 0 0]] w' (Ret (okArg true) w')) := by
    intro A c w' h
    have := checkMsg_any m (A, c) (none, 0) (none, 0) w' h
    rw [hck, hv A c] at this
    exact this
  have HV := Lib.hid hv
  clear hv
  have B0 := Lib.hid b0
  have B1 := Lib.hid b1
  clear hc l1 b0 b1 hI0 hI1 hck hx hl l2 hL
  generalize eMsg m = EM at H0 hcH ⊢
  go_enter Tryz.func11, Tryz.ntmps11
  go_wp2_with (first
    | (go_at_call 37; refine (octOf_any EM _).mono ?_; rintro e w1 ⟨rfl, rfl⟩)
    | (go_at_call 38; refine (rInt_any m.kind _ (w.heap.size + 1) _ HI0.out H0.out B0.out).mono ?_; rintro e w2 ⟨rfl, hr2, hg2⟩; have hs2 : w.heap.size + 1 < w2.heap.size := (by have := hg2.size; simp at this; omega); have hR2 : Blk w2 w.heap.size 38 #[i64 0, i64 0, i64 0, .slice none 0 0, .slice none 0 0, .slice none 0 0] := ((Blk.new w _ _).alloc _).chg hg2 (by simp); have hC2 : Chg [] w w2 := (((Chg.refl [] w).alloc _).alloc _).then_ hg2 (by intro i hi hm; simp at hm; omega))
    | (go_at_call 26; refine (of_any m.kind _).mono ?_; rintro e w3 ⟨rfl, hg3⟩; have hM3 : Blk w3 w2.heap.size 38 #[i64 m.kind, i64 0, i64 0, .slice none 0 0, .slice none 0 0, .slice none 0 0] := (Blk.new w2 _ _).chg hg3 (by simp); have kM3 := fun j => hM3.cell j; have fM3 := fun j => hM3.frozen j; have hr3 : Rdr w3 (w.heap.size + 1) _ := Blk.chg (Blk.alloc hr2 (.cells #[i64 m.kind, i64 0, i64 0, .slice none 0 0, .slice none 0 0, .slice none 0 0] 38)) hg3 (by simp); have hR3 := (hR2.alloc (.cells #[i64 m.kind, i64 0, i64 0, .slice none 0 0, .slice none 0 0, .slice none 0 0] 38)).chg hg3 (by simp); have hs3 : w2.heap.size < w3.heap.size := hM3.lt; have hC3 : Chg [] w w3 := (hC2.alloc (.cells #[i64 m.kind, i64 0, i64 0, .slice none 0 0, .slice none 0 0, .slice none 0 0] 38)).trans hg3)
    | (go_at_call 38; refine (rInt_any m.t _ (w.heap.size + 1) _ HI1.out (Blk.alloc hr3 _) B1.out).mono ?_; rintro e w4 ⟨rfl, hr4, hg4⟩; have hM4 := (hM3.alloc (.cells #[.bool true, .bool false, .bool true, .bool false, .bool false] 67)).chg hg4 (by simp; omega); have kM4 := fun j => hM4.cell j; have fM4 := fun j => hM4.frozen j; have hF4 : Blk w4 w3.heap.size 67 #[.bool true, .bool false, .bool true, .bool false, .bool false] := (Blk.new w3 _ _).chg hg4 (by simp; omega); have kF4 := fun j => hF4.cell j; have hR4 := (hR3.alloc (.cells #[.bool true, .bool false, .bool true, .bool false, .bool false] 67)).chg hg4 (by simp); have hs4 : w3.heap.size < w4.heap.size := hF4.lt; have hC4 : Chg [] w w4 := (hC3.alloc (.cells #[.bool true, .bool false, .bool true, .bool false, .bool false] 67)).then_ hg4 (by intro i hi hm; simp at hm; omega))
    | (go_at_call 39; refine (T2.out _ (Blk.far hr4 (by simp; omega) _)).mono ?_; rintro e w5 ⟨v, rfl, hown, hr5, hg5⟩; obtain ⟨A, c, rfl⟩ := own_slice hown;
        have hM5 := (hM4.set_ 1 (i64 m.t)).chg hg5 (by simp; omega); have hF5 := (hF4.far (by simp; omega) (i64 m.t)).chg hg5 (by simp; omega); have hR5 := (hR4.far (by simp; omega) (i64 m.t)).chg hg5 (by simp); have kM5 := fun j => hM5.cell j; have fM5 := fun j => hM5.frozen j; have kF5 := fun j => hF5.cell j; have hs5 : w3.heap.size < w5.heap.size := hF5.lt; have hC5 : Chg [] w w5 := (hC4.setCell (p := ⟨w2.heap.size, 1, none⟩) (.inr (by simp; omega)) (i64 m.t)).then_ hg5 (by intro i hi hm; simp at hm; omega))
    | (go_at_call 45; refine (rDone_nil (w.heap.size + 1) _ (Blk.far hr5 (by simp; omega) _)).mono ?_; rintro e w8 ⟨rfl, rfl⟩)
    | (go_at_call 25; refine (HCK.out A c _ ⟨Rd.chg (Rd.of_own hown) ((Chg.refl [w2.heap.size] w5).setCell (p := ⟨w2.heap.size, 3, none⟩) (.inl (by simp)) _) (by intro q hq hn hm; simp at hq; subst hq; have := (own_blk hown _ hm).1; simp at this; omega), by rw [zB]; exact Rd.nil_, by rw [zI]; exact Rd.nil_, hlen⟩).mono ?_; rintro e w6 ⟨rfl, hg6⟩; have hM6 := (hM5.set_ 3 (.slice A m.cmds.length c)).chg hg6 (by simp); have kM6 := fun j => hM6.cell j; have hR6 := (hR5.far (by simp; omega) (.slice A m.cmds.length c)).chg hg6 (by simp); have kR6 := fun j => hR6.cell j; have fR6 := fun j => hR6.frozen j))
  have hMI : MsgIn (w5.setCell ⟨w2.heap.size, 3, none⟩ (.slice A m.cmds.length c)) m (A, c) (none, 0) (none, 0) := ⟨Rd.chg (Rd.of_own hown) ((Chg.refl [w2.heap.size] w5).setCell (p := ⟨w2.heap.size, 3, none⟩) (.inl (by simp)) _) (by intro q hq hn hm; simp at hq; subst hq; have := (own_blk hown _ hm).1; simp at this; omega), by rw [zB]; exact Rd.nil_, by rw [zI]; exact Rd.nil_, hlen⟩
  have hCF : Chg [] w w6 := (hC5.setCell (p := ⟨w2.heap.size, 3, none⟩) (.inr (by simp; omega)) (.slice A m.cmds.length c)).then_ hg6 (by simp)
  have hMI6 := hMI.new_ hg6
  have hsz6 := hg6.size
  clear kM6 kR6 fR6 hM6
  change bodyPost _ _ _ _ _ (setMsg w6 w.heap.size _ _ _ _ _ _)
  refine bodyPost_ret (results_cell_tmp_row rfl _ _ w.heap.size 38 #[i64 m.kind, i64 m.t, i64 0, .slice A m.cmds.length c, .slice none 0 0, .slice none 0 0] (0, 0) _ rfl (setMsg_blk _ _ _ _ _ _ hR6) Tryz.underlying38 rfl (by kernel_rfl)) rfl ?_
  refine ⟨(A, c), (none, 0), (none, 0), by rw [HV.out A c]; rfl, hMI6.chg (S := [w.heap.size]) (setMsg_chg _ _ _ _ _ _ (Chg.refl _ _) (.inl (by simp))) ?_, setMsg_chg _ _ _ _ _ _ hCF (.inr (Nat.le_refl _)), ?_⟩
  · intro q hq; simp at hq; subst hq; simp only [blkOf, List.not_mem_nil, not_false_eq_true, and_true]; intro hm; have := (own_blk hown _ hm).1; simp at this; omega
  · intro q hq; simp only [blkOf, List.not_mem_nil, or_false] at hq; have h1 := own_blk hown _ hq; simp [setMsg, World.setCell] at h1 hsz6 ⊢; omega

set_option maxHeartbeats 4000000 in
set_option maxRecDepth 100000 in
theorem dec_T (m : Msg) (w : World) (hck : chkMsg m = true) (hI0 : I64 m.kind) (hI1 : I64 m.t) (hlen : m.cmds.length ≤ 4611686018427387904 ∧ m.buns.length ≤ 4611686018427387904 ∧ m.ids.length ≤ 4611686018427387904) (hT : ofT m.kind = true) (hN : ofN m.kind = false) (hC : ofC m.kind = false) (hB : ofB m.kind = false) (hI : ofI m.kind = false)  (zC : m.cmds = []) (zB : m.buns = []) (zI : m.ids = []) (zn : m.n = 0) :
    Calls Tryz.prog 11 #[strV (eMsg m)] w (DecR m w) := by
  have hc : eMsg m = oct m.kind ++ (oct m.t ++ ([] : Bytes)) := by simp [eMsg, hT, hN, hC, hB, hI, Hg.part]
  have e0 := okArg_t
  have l1 : (octs [m.t]).length ≤ 1 * 9 := octs_len (by simpa using hI1)
  rw [octs_one] at l1
  have b0 : (oct m.t ++ ([] : Bytes)).length ≤ 1099511627776 := by rw [List.length_append]; simp; omega
  have b1 : (([] : Bytes)).length ≤ 1099511627776 := by simp
  have H0 : Hid (Rdr ((w.alloc (.cells #[i64 0, i64 0, i64 0, .slice none 0 0, .slice none 0 0, .slice none 0 0] 38)).alloc (.cells #[strV (eMsg m), .bool false] 128)) (w.heap.size + 1) (oct m.kind ++ (oct m.t ++ ([] : Bytes)))) := by
    have := Blk.new (w.alloc (.cells #[i64 0, i64 0, i64 0, .slice none 0 0, .slice none 0 0, .slice none 0 0] 38)) 128 #[strV (eMsg m), .bool false]
    rw [World.size_alloc, hc] at this
    rw [hc]
    exact this
  have hcH := Lib.hid hc
  have HI0 := Lib.hid hI0
  have HI1 := Lib.hid hI1
  have hv : ∀ (A : Option Addr) (c : Nat), msgV m (none, 0) (none, 0) (none, 0) = .agg #[i64 m.kind, i64 m.t, i64 0, .slice none 0 0, .slice none 0 0, .slice none 0 0] := by intro A c; simp only [msgV, zC, zB, zI, zn, List.length_nil]
  have HCK : Hid (∀ (A : Option Addr) (c : Nat) (w' : World), MsgIn w' m (none, 0) (none, 0) (none, 0) → Calls Tryz.prog 25 #[.agg #[i64 m.kind, i64 m.t, i64 0, .slice none 0 0, .slice none 0 0, .slice none 0 0]] w' (Ret (okArg true) w')) := by
    intro A c w' h
    have := checkMsg_any m (none, 0) (none, 0) (none, 0) w' h
    rw [hck, hv A c] at this
    exact this
  have HV := Lib.hid hv
  clear hv
  have B0 := Lib.hid b0
  have B1 := Lib.hid b1
  clear hc l1 b0 b1 hI0 hI1 hck
  generalize eMsg m = EM at H0 hcH ⊢
  go_enter Tryz.func11, Tryz.ntmps11
  go_wp2_with (first
    | (go_at_call 37; refine (octOf_any EM _).mono ?_; rintro e w1 ⟨rfl, rfl⟩)
    | (go_at_call 38; refine (rInt_any m.kind _ (w.heap.size + 1) _ HI0.out H0.out B0.out).mono ?_; rintro e w2 ⟨rfl, hr2, hg2⟩; have hs2 : w.heap.size + 1 < w2.heap.size := (by have := hg2.size; simp at this; omega); have hR2 : Blk w2 w.heap.size 38 #[i64 0, i64 0, i64 0, .slice none 0 0, .slice none 0 0, .slice none 0 0] := ((Blk.new w _ _).alloc _).chg hg2 (by simp); have hC2 : Chg [] w w2 := (((Chg.refl [] w).alloc _).alloc _).then_ hg2 (by intro i hi hm; simp at hm; omega))
    | (go_at_call 26; refine (of_any m.kind _).mono ?_; rintro e w3 ⟨rfl, hg3⟩; have hM3 : Blk w3 w2.heap.size 38 #[i64 m.kind, i64 0, i64 0, .slice none 0 0, .slice none 0 0, .slice none 0 0] := (Blk.new w2 _ _).chg hg3 (by simp); have kM3 := fun j => hM3.cell j; have fM3 := fun j => hM3.frozen j; have hr3 : Rdr w3 (w.heap.size + 1) _ := Blk.chg (Blk.alloc hr2 (.cells #[i64 m.kind, i64 0, i64 0, .slice none 0 0, .slice none 0 0, .slice none 0 0] 38)) hg3 (by simp); have hR3 := (hR2.alloc (.cells #[i64 m.kind, i64 0, i64 0, .slice none 0 0, .slice none 0 0, .slice none 0 0] 38)).chg hg3 (by simp); have hs3 : w2.heap.size < w3.heap.size := hM3.lt; have hC3 : Chg [] w w3 := (hC2.alloc (.cells #[i64 m.kind, i64 0, i64 0, .slice none 0 0, .slice none 0 0, .slice none 0 0] 38)).trans hg3)
    | (go_at_call 38; refine (rInt_any m.t _ (w.heap.size + 1) _ HI1.out (Blk.alloc hr3 _) B1.out).mono ?_; rintro e w4 ⟨rfl, hr4, hg4⟩; have hM4 := (hM3.alloc (.cells #[.bool true, .bool false, .bool false, .bool false, .bool false] 67)).chg hg4 (by simp; omega); have kM4 := fun j => hM4.cell j; have fM4 := fun j => hM4.frozen j; have hF4 : Blk w4 w3.heap.size 67 #[.bool true, .bool false, .bool false, .bool false, .bool false] := (Blk.new w3 _ _).chg hg4 (by simp; omega); have kF4 := fun j => hF4.cell j; have hR4 := (hR3.alloc (.cells #[.bool true, .bool false, .bool false, .bool false, .bool false] 67)).chg hg4 (by simp); have hs4 : w3.heap.size < w4.heap.size := hF4.lt; have hC4 : Chg [] w w4 := (hC3.alloc (.cells #[.bool true, .bool false, .bool false, .bool false, .bool false] 67)).then_ hg4 (by intro i hi hm; simp at hm; omega))
    | (go_at_call 45; refine (rDone_nil (w.heap.size + 1) _ (Blk.far hr4 (by simp; omega) _)).mono ?_; rintro e w8 ⟨rfl, rfl⟩)
    | (go_at_call 25; refine (HCK.out none 0 _ ⟨by rw [zC]; exact Rd.nil_, by rw [zB]; exact Rd.nil_, by rw [zI]; exact Rd.nil_, hlen⟩).mono ?_; rintro e w6 ⟨rfl, hg6⟩; have hM6 := (hM4.set_ 1 (i64 m.t)).chg hg6 (by simp); have kM6 := fun j => hM6.cell j; have hR6 := (hR4.far (by simp; omega) (i64 m.t)).chg hg6 (by simp); have kR6 := fun j => hR6.cell j; have fR6 := fun j => hR6.frozen j))
  have hMI : MsgIn (w4.setCell ⟨w2.heap.size, 1, none⟩ (i64 m.t)) m (none, 0) (none, 0) (none, 0) := ⟨by rw [zC]; exact Rd.nil_, by rw [zB]; exact Rd.nil_, by rw [zI]; exact Rd.nil_, hlen⟩
  have hCF : Chg [] w w6 := (hC4.setCell (p := ⟨w2.heap.size, 1, none⟩) (.inr (by simp; omega)) (i64 m.t)).then_ hg6 (by simp)
  have hMI6 := hMI.new_ hg6
  have hsz6 := hg6.size
  clear kM6 kR6 fR6 hM6
  change bodyPost _ _ _ _ _ (setMsg w6 w.heap.size _ _ _ _ _ _)
  refine bodyPost_ret (results_cell_tmp_row rfl _ _ w.heap.size 38 #[i64 m.kind, i64 m.t, i64 0, .slice none 0 0, .slice none 0 0, .slice none 0 0] (0, 0) _ rfl (setMsg_blk _ _ _ _ _ _ hR6) Tryz.underlying38 rfl (by kernel_rfl)) rfl ?_
  refine ⟨(none, 0), (none, 0), (none, 0), by rw [HV.out none 0]; rfl, hMI6.chg (S := [w.heap.size]) (setMsg_chg _ _ _ _ _ _ (Chg.refl _ _) (.inl (by simp))) ?_, setMsg_chg _ _ _ _ _ _ hCF (.inr (Nat.le_refl _)), ?_⟩
  · simp [blkOf]
  · simp [blkOf]

set_option maxHeartbeats 4000000 in
set_option maxRecDepth 100000 in
theorem dec_TI (m : Msg) (w : World) (hck : chkMsg m = true) (hI0 : I64 m.kind) (hI1 : I64 m.t) (hlen : m.cmds.length ≤ 4611686018427387904 ∧ m.buns.length ≤ 4611686018427387904 ∧ m.ids.length ≤ 4611686018427387904) (hT : ofT m.kind = true) (hN : ofN m.kind = false) (hC : ofC m.kind = false) (hB : ofB m.kind = false) (hI : ofI m.kind = true) (hL : lst true m.ids 1024 chkID = true) (zC : m.cmds = []) (zB : m.buns = []) (zn : m.n = 0) :
    Calls Tryz.prog 11 #[strV (eMsg m)] w (DecR m w) := by
  have hc : eMsg m = oct m.kind ++ (oct m.t ++ eList eID m.ids) := by simp [eMsg, hT, hN, hC, hB, hI, Hg.part]
  have e0 := okArg_t
  have l1 : (octs [m.t]).length ≤ 1 * 9 := octs_len (by simpa using hI1)
  rw [octs_one] at l1
  have hx : ∀ x ∈ m.ids, chkID x = true := by simp only [lst, Bool.and_eq_true, List.all_eq_true] at hL; exact hL.2
  have hl : m.ids.length ≤ 1024 := by simp only [lst, Bool.and_eq_true, decide_eq_true_eq] at hL; omega
  have l2 : (eList eID m.ids).length ≤ 9 + 1024 * 27 := eList_len (fun x h => eID_len (hx x h)) (by omega)
  have T2 := Lib.hid (fun (w' : World) (h : Rdr w' (w.heap.size + 1) (eList eID m.ids)) => takeListID_any 1024 m.ids [] (w.heap.size + 1) w' (by rw [List.append_nil]; exact h) hl (by omega) hx (by simp))
  have b0 : (oct m.t ++ eList eID m.ids).length ≤ 1099511627776 := by rw [List.length_append]; generalize (oct m.t).length = q1 at l1 ⊢; generalize (eList eID m.ids).length = q2 at l2 ⊢; omega
  have b1 : (eList eID m.ids).length ≤ 1099511627776 := by omega
  have H0 : Hid (Rdr ((w.alloc (.cells #[i64 0, i64 0, i64 0, .slice none 0 0, .slice none 0 0, .slice none 0 0] 38)).alloc (.cells #[strV (eMsg m), .bool false] 128)) (w.heap.size + 1) (oct m.kind ++ (oct m.t ++ eList eID m.ids))) := by
    have := Blk.new (w.alloc (.cells #[i64 0, i64 0, i64 0, .slice none 0 0, .slice none 0 0, .slice none 0 0] 38)) 128 #[strV (eMsg m), .bool false]
    rw [World.size_alloc, hc] at this
    rw [hc]
    exact this
  have hcH := Lib.hid hc
  have HI0 := Lib.hid hI0
  have HI1 := Lib.hid hI1
  have hv : ∀ (A : Option Addr) (c : Nat), msgV m (none, 0) (none, 0) (A, c) = .agg #[i64 m.kind, i64 m.t, i64 0, .slice none 0 0, .slice none 0 0, .slice A m.ids.length c] := by intro A c; simp only [msgV, zC, zB, zn, List.length_nil]
  have HCK : Hid (∀ (A : Option Addr) (c : Nat) (w' : World), MsgIn w' m (none, 0) (none, 0) (A, c) → Calls Tryz.prog 25 #[.agg #[i64 m.kind, i64 m.t, i64 0, .slice none 0 0, .slice none 0 0, .slice A m.ids.length c]] w' (Ret (okArg true) w')) := by
    intro A c w' h
    have := checkMsg_any m (none, 0) (none, 0) (A, c) w' h
    rw [hck, hv A c] at this
    exact this
  have HV := Lib.hid hv
  clear hv
  have B0 := Lib.hid b0
  have B1 := Lib.hid b1
  clear hc l1 b0 b1 hI0 hI1 hck hx hl l2 hL
  generalize eMsg m = EM at H0 hcH ⊢
  go_enter Tryz.func11, Tryz.ntmps11
  go_wp2_with (first
    | (go_at_call 37; refine (octOf_any EM _).mono ?_; rintro e w1 ⟨rfl, rfl⟩)
    | (go_at_call 38; refine (rInt_any m.kind _ (w.heap.size + 1) _ HI0.out H0.out B0.out).mono ?_; rintro e w2 ⟨rfl, hr2, hg2⟩; have hs2 : w.heap.size + 1 < w2.heap.size := (by have := hg2.size; simp at this; omega); have hR2 : Blk w2 w.heap.size 38 #[i64 0, i64 0, i64 0, .slice none 0 0, .slice none 0 0, .slice none 0 0] := ((Blk.new w _ _).alloc _).chg hg2 (by simp); have hC2 : Chg [] w w2 := (((Chg.refl [] w).alloc _).alloc _).then_ hg2 (by intro i hi hm; simp at hm; omega))
    | (go_at_call 26; refine (of_any m.kind _).mono ?_; rintro e w3 ⟨rfl, hg3⟩; have hM3 : Blk w3 w2.heap.size 38 #[i64 m.kind, i64 0, i64 0, .slice none 0 0, .slice none 0 0, .slice none 0 0] := (Blk.new w2 _ _).chg hg3 (by simp); have kM3 := fun j => hM3.cell j; have fM3 := fun j => hM3.frozen j; have hr3 : Rdr w3 (w.heap.size + 1) _ := Blk.chg (Blk.alloc hr2 (.cells #[i64 m.kind, i64 0, i64 0, .slice none 0 0, .slice none 0 0, .slice none 0 0] 38)) hg3 (by simp); have hR3 := (hR2.alloc (.cells #[i64 m.kind, i64 0, i64 0, .slice none 0 0, .slice none 0 0, .slice none 0 0] 38)).chg hg3 (by simp); have hs3 : w2.heap.size < w3.heap.size := hM3.lt; have hC3 : Chg [] w w3 := (hC2.alloc (.cells #[i64 m.kind, i64 0, i64 0, .slice none 0 0, .slice none 0 0, .slice none 0 0] 38)).trans hg3)
    | (go_at_call 38; refine (rInt_any m.t _ (w.heap.size + 1) _ HI1.out (Blk.alloc hr3 _) B1.out).mono ?_; rintro e w4 ⟨rfl, hr4, hg4⟩; have hM4 := (hM3.alloc (.cells #[.bool true, .bool false, .bool false, .bool false, .bool true] 67)).chg hg4 (by simp; omega); have kM4 := fun j => hM4.cell j; have fM4 := fun j => hM4.frozen j; have hF4 : Blk w4 w3.heap.size 67 #[.bool true, .bool false, .bool false, .bool false, .bool true] := (Blk.new w3 _ _).chg hg4 (by simp; omega); have kF4 := fun j => hF4.cell j; have hR4 := (hR3.alloc (.cells #[.bool true, .bool false, .bool false, .bool false, .bool true] 67)).chg hg4 (by simp); have hs4 : w3.heap.size < w4.heap.size := hF4.lt; have hC4 : Chg [] w w4 := (hC3.alloc (.cells #[.bool true, .bool false, .bool false, .bool false, .bool true] 67)).then_ hg4 (by intro i hi hm; simp at hm; omega))
    | (go_at_call 43; refine (T2.out _ (Blk.far hr4 (by simp; omega) _)).mono ?_; rintro e w5 ⟨v, rfl, hown, hr5, hg5⟩; obtain ⟨A, c, rfl⟩ := own_slice hown;
        have hM5 := (hM4.set_ 1 (i64 m.t)).chg hg5 (by simp; omega); have hF5 := (hF4.far (by simp; omega) (i64 m.t)).chg hg5 (by simp; omega); have hR5 := (hR4.far (by simp; omega) (i64 m.t)).chg hg5 (by simp); have kM5 := fun j => hM5.cell j; have fM5 := fun j => hM5.frozen j; have kF5 := fun j => hF5.cell j; have hs5 : w3.heap.size < w5.heap.size := hF5.lt; have hC5 : Chg [] w w5 := (hC4.setCell (p := ⟨w2.heap.size, 1, none⟩) (.inr (by simp; omega)) (i64 m.t)).then_ hg5 (by intro i hi hm; simp at hm; omega))
    | (go_at_call 45; refine (rDone_nil (w.heap.size + 1) _ (Blk.far hr5 (by simp; omega) _)).mono ?_; rintro e w8 ⟨rfl, rfl⟩)
    | (go_at_call 25; refine (HCK.out A c _ ⟨by rw [zC]; exact Rd.nil_, by rw [zB]; exact Rd.nil_, Rd.chg (Rd.of_own hown) ((Chg.refl [w2.heap.size] w5).setCell (p := ⟨w2.heap.size, 5, none⟩) (.inl (by simp)) _) (by intro q hq hn hm; simp at hq; subst hq; have := (own_blk hown _ hm).1; simp at this; omega), hlen⟩).mono ?_; rintro e w6 ⟨rfl, hg6⟩; have hM6 := (hM5.set_ 5 (.slice A m.ids.length c)).chg hg6 (by simp); have kM6 := fun j => hM6.cell j; have hR6 := (hR5.far (by simp; omega) (.slice A m.ids.length c)).chg hg6 (by simp); have kR6 := fun j => hR6.cell j; have fR6 := fun j => hR6.frozen j))
  have hMI : MsgIn (w5.setCell ⟨w2.heap.size, 5, none⟩ (.slice A m.ids.length c)) m (none, 0) (none, 0) (A, c) := ⟨by rw [zC]; exact Rd.nil_, by rw [zB]; exact Rd.nil_, Rd.chg (Rd.of_own hown) ((Chg.refl [w2.heap.size] w5).setCell (p := ⟨w2.heap.size, 5, none⟩) (.inl (by simp)) _) (by intro q hq hn hm; simp at hq; subst hq; have := (own_blk hown _ hm).1; simp at this; omega), hlen⟩
  have hCF : Chg [] w w6 := (hC5.setCell (p := ⟨w2.heap.size, 5, none⟩) (.inr (by simp; omega)) (.slice A m.ids.length c)).then_ hg6 (by simp)
  have hMI6 := hMI.new_ hg6
  have hsz6 := hg6.size
  clear kM6 kR6 fR6 hM6
  change bodyPost _ _ _ _ _ (setMsg w6 w.heap.size _ _ _ _ _ _)
  refine bodyPost_ret (results_cell_tmp_row rfl _ _ w.heap.size 38 #[i64 m.kind, i64 m.t, i64 0, .slice none 0 0, .slice none 0 0, .slice A m.ids.length c] (0, 0) _ rfl (setMsg_blk _ _ _ _ _ _ hR6) Tryz.underlying38 rfl (by kernel_rfl)) rfl ?_
  refine ⟨(none, 0), (none, 0), (A, c), by rw [HV.out A c]; rfl, hMI6.chg (S := [w.heap.size]) (setMsg_chg _ _ _ _ _ _ (Chg.refl _ _) (.inl (by simp))) ?_, setMsg_chg _ _ _ _ _ _ hCF (.inr (Nat.le_refl _)), ?_⟩
  · intro q hq; simp at hq; subst hq; simp only [blkOf, List.not_mem_nil, not_false_eq_true, true_and]; intro hm; have := (own_blk hown _ hm).1; simp at this; omega
  · intro q hq; simp only [blkOf, List.not_mem_nil, false_or] at hq; have h1 := own_blk hown _ hq; simp [setMsg, World.setCell] at h1 hsz6 ⊢; omega

set_option maxHeartbeats 4000000 in
set_option maxRecDepth 100000 in
theorem dec_NB (m : Msg) (w : World) (hck : chkMsg m = true) (hI0 : I64 m.kind) (hI1 : I64 m.n) (hlen : m.cmds.length ≤ 4611686018427387904 ∧ m.buns.length ≤ 4611686018427387904 ∧ m.ids.length ≤ 4611686018427387904) (hT : ofT m.kind = false) (hN : ofN m.kind = true) (hC : ofC m.kind = false) (hB : ofB m.kind = true) (hI : ofI m.kind = false) (hL : lst true m.buns 1024 chkBun = true) (zC : m.cmds = []) (zI : m.ids = []) (zn : m.t = 0) :
    Calls Tryz.prog 11 #[strV (eMsg m)] w (DecR m w) := by
  have hc : eMsg m = oct m.kind ++ (oct m.n ++ eList eBun m.buns) := by simp [eMsg, hT, hN, hC, hB, hI, Hg.part]
  have e0 := okArg_t
  have l1 : (octs [m.n]).length ≤ 1 * 9 := octs_len (by simpa using hI1)
  rw [octs_one] at l1
  have hx : ∀ x ∈ m.buns, chkBun x = true := by simp only [lst, Bool.and_eq_true, List.all_eq_true] at hL; exact hL.2
  have hl : m.buns.length ≤ 1024 := by simp only [lst, Bool.and_eq_true, decide_eq_true_eq] at hL; omega
  have l2 : (eList eBun m.buns).length ≤ 9 + 1024 * 108 := eList_len (fun x h => eBun_len (hx x h)) (by omega)
  have T2 := Lib.hid (fun (w' : World) (h : Rdr w' (w.heap.size + 1) (eList eBun m.buns)) => takeListBun_any 1024 m.buns [] (w.heap.size + 1) w' (by rw [List.append_nil]; exact h) hl (by omega) hx (by simp))
  have b0 : (oct m.n ++ eList eBun m.buns).length ≤ 1099511627776 := by rw [List.length_append]; generalize (oct m.n).length = q1 at l1 ⊢; generalize (eList eBun m.buns).length = q2 at l2 ⊢; omega
  have b1 : (eList eBun m.buns).length ≤ 1099511627776 := by omega
  have H0 : Hid (Rdr ((w.alloc (.cells #[i64 0, i64 0, i64 0, .slice none 0 0, .slice none 0 0, .slice none 0 0] 38)).alloc (.cells #[strV (eMsg m), .bool false] 128)) (w.heap.size + 1) (oct m.kind ++ (oct m.n ++ eList eBun m.buns))) := by
    have := Blk.new (w.alloc (.cells #[i64 0, i64 0, i64 0, .slice none 0 0, .slice none 0 0, .slice none 0 0] 38)) 128 #[strV (eMsg m), .bool false]
    rw [World.size_alloc, hc] at this
    rw [hc]
    exact this
  have hcH := Lib.hid hc
  have HI0 := Lib.hid hI0
  have HI1 := Lib.hid hI1
  have hv : ∀ (A : Option Addr) (c : Nat), msgV m (none, 0) (A, c) (none, 0) = .agg #[i64 m.kind, i64 0, i64 m.n, .slice none 0 0, .slice A m.buns.length c, .slice none 0 0] := by intro A c; simp only [msgV, zC, zI, zn, List.length_nil]
  have HCK : Hid (∀ (A : Option Addr) (c : Nat) (w' : World), MsgIn w' m (none, 0) (A, c) (none, 0) → Calls Tryz.prog 25 #[.agg #[i64 m.kind, i64 0, i64 m.n, .slice none 0 0, .slice A m.buns.length c, .slice none 0 0]] w' (Ret (okArg true) w')) := by
    intro A c w' h
    have := checkMsg_any m (none, 0) (A, c) (none, 0) w' h
    rw [hck, hv A c] at this
    exact this
  have HV := Lib.hid hv
  clear hv
  have B0 := Lib.hid b0
  have B1 := Lib.hid b1
  clear hc l1 b0 b1 hI0 hI1 hck hx hl l2 hL
  generalize eMsg m = EM at H0 hcH ⊢
  go_enter Tryz.func11, Tryz.ntmps11
  go_wp2_with (first
    | (go_at_call 37; refine (octOf_any EM _).mono ?_; rintro e w1 ⟨rfl, rfl⟩)
    | (go_at_call 38; refine (rInt_any m.kind _ (w.heap.size + 1) _ HI0.out H0.out B0.out).mono ?_; rintro e w2 ⟨rfl, hr2, hg2⟩; have hs2 : w.heap.size + 1 < w2.heap.size := (by have := hg2.size; simp at this; omega); have hR2 : Blk w2 w.heap.size 38 #[i64 0, i64 0, i64 0, .slice none 0 0, .slice none 0 0, .slice none 0 0] := ((Blk.new w _ _).alloc _).chg hg2 (by simp); have hC2 : Chg [] w w2 := (((Chg.refl [] w).alloc _).alloc _).then_ hg2 (by intro i hi hm; simp at hm; omega))
    | (go_at_call 26; refine (of_any m.kind _).mono ?_; rintro e w3 ⟨rfl, hg3⟩; have hM3 : Blk w3 w2.heap.size 38 #[i64 m.kind, i64 0, i64 0, .slice none 0 0, .slice none 0 0, .slice none 0 0] := (Blk.new w2 _ _).chg hg3 (by simp); have kM3 := fun j => hM3.cell j; have fM3 := fun j => hM3.frozen j; have hr3 : Rdr w3 (w.heap.size + 1) _ := Blk.chg (Blk.alloc hr2 (.cells #[i64 m.kind, i64 0, i64 0, .slice none 0 0, .slice none 0 0, .slice none 0 0] 38)) hg3 (by simp); have hR3 := (hR2.alloc (.cells #[i64 m.kind, i64 0, i64 0, .slice none 0 0, .slice none 0 0, .slice none 0 0] 38)).chg hg3 (by simp); have hs3 : w2.heap.size < w3.heap.size := hM3.lt; have hC3 : Chg [] w w3 := (hC2.alloc (.cells #[i64 m.kind, i64 0, i64 0, .slice none 0 0, .slice none 0 0, .slice none 0 0] 38)).trans hg3)
    | (go_at_call 38; refine (rInt_any m.n _ (w.heap.size + 1) _ HI1.out (Blk.alloc hr3 _) B1.out).mono ?_; rintro e w4 ⟨rfl, hr4, hg4⟩; have hM4 := (hM3.alloc (.cells #[.bool false, .bool true, .bool false, .bool true, .bool false] 67)).chg hg4 (by simp; omega); have kM4 := fun j => hM4.cell j; have fM4 := fun j => hM4.frozen j; have hF4 : Blk w4 w3.heap.size 67 #[.bool false, .bool true, .bool false, .bool true, .bool false] := (Blk.new w3 _ _).chg hg4 (by simp; omega); have kF4 := fun j => hF4.cell j; have hR4 := (hR3.alloc (.cells #[.bool false, .bool true, .bool false, .bool true, .bool false] 67)).chg hg4 (by simp); have hs4 : w3.heap.size < w4.heap.size := hF4.lt; have hC4 : Chg [] w w4 := (hC3.alloc (.cells #[.bool false, .bool true, .bool false, .bool true, .bool false] 67)).then_ hg4 (by intro i hi hm; simp at hm; omega))
    | (go_at_call 41; refine (T2.out _ (Blk.far hr4 (by simp; omega) _)).mono ?_; rintro e w5 ⟨v, rfl, hown, hr5, hg5⟩; obtain ⟨A, c, rfl⟩ := own_slice hown;
        have hM5 := (hM4.set_ 2 (i64 m.n)).chg hg5 (by simp; omega); have hF5 := (hF4.far (by simp; omega) (i64 m.n)).chg hg5 (by simp; omega); have hR5 := (hR4.far (by simp; omega) (i64 m.n)).chg hg5 (by simp); have kM5 := fun j => hM5.cell j; have fM5 := fun j => hM5.frozen j; have kF5 := fun j => hF5.cell j; have hs5 : w3.heap.size < w5.heap.size := hF5.lt; have hC5 : Chg [] w w5 := (hC4.setCell (p := ⟨w2.heap.size, 2, none⟩) (.inr (by simp; omega)) (i64 m.n)).then_ hg5 (by intro i hi hm; simp at hm; omega))
    | (go_at_call 45; refine (rDone_nil (w.heap.size + 1) _ (Blk.far hr5 (by simp; omega) _)).mono ?_; rintro e w8 ⟨rfl, rfl⟩)
    | (go_at_call 25; refine (HCK.out A c _ ⟨by rw [zC]; exact Rd.nil_, Rd.chg (Rd.of_own hown) ((Chg.refl [w2.heap.size] w5).setCell (p := ⟨w2.heap.size, 4, none⟩) (.inl (by simp)) _) (by intro q hq hn hm; simp at hq; subst hq; have := (own_blk hown _ hm).1; simp at this; omega), by rw [zI]; exact Rd.nil_, hlen⟩).mono ?_; rintro e w6 ⟨rfl, hg6⟩; have hM6 := (hM5.set_ 4 (.slice A m.buns.length c)).chg hg6 (by simp); have kM6 := fun j => hM6.cell j; have hR6 := (hR5.far (by simp; omega) (.slice A m.buns.length c)).chg hg6 (by simp); have kR6 := fun j => hR6.cell j; have fR6 := fun j => hR6.frozen j))
  have hMI : MsgIn (w5.setCell ⟨w2.heap.size, 4, none⟩ (.slice A m.buns.length c)) m (none, 0) (A, c) (none, 0) := ⟨by rw [zC]; exact Rd.nil_, Rd.chg (Rd.of_own hown) ((Chg.refl [w2.heap.size] w5).setCell (p := ⟨w2.heap.size, 4, none⟩) (.inl (by simp)) _) (by intro q hq hn hm; simp at hq; subst hq; have := (own_blk hown _ hm).1; simp at this; omega), by rw [zI]; exact Rd.nil_, hlen⟩
  have hCF : Chg [] w w6 := (hC5.setCell (p := ⟨w2.heap.size, 4, none⟩) (.inr (by simp; omega)) (.slice A m.buns.length c)).then_ hg6 (by simp)
  have hMI6 := hMI.new_ hg6
  have hsz6 := hg6.size
  clear kM6 kR6 fR6 hM6
  change bodyPost _ _ _ _ _ (setMsg w6 w.heap.size _ _ _ _ _ _)
  refine bodyPost_ret (results_cell_tmp_row rfl _ _ w.heap.size 38 #[i64 m.kind, i64 0, i64 m.n, .slice none 0 0, .slice A m.buns.length c, .slice none 0 0] (0, 0) _ rfl (setMsg_blk _ _ _ _ _ _ hR6) Tryz.underlying38 rfl (by kernel_rfl)) rfl ?_
  refine ⟨(none, 0), (A, c), (none, 0), by rw [HV.out A c]; rfl, hMI6.chg (S := [w.heap.size]) (setMsg_chg _ _ _ _ _ _ (Chg.refl _ _) (.inl (by simp))) ?_, setMsg_chg _ _ _ _ _ _ hCF (.inr (Nat.le_refl _)), ?_⟩
  · intro q hq; simp at hq; subst hq; simp only [blkOf, List.not_mem_nil, not_false_eq_true, true_and, and_true]; intro hm; have := (own_blk hown _ hm).1; simp at this; omega
  · intro q hq; simp only [blkOf, List.not_mem_nil, or_false, false_or] at hq; have h1 := own_blk hown _ hq; simp [setMsg, World.setCell] at h1 hsz6 ⊢; omega

set_option maxHeartbeats 4000000 in
set_option maxRecDepth 100000 in
theorem dec_N (m : Msg) (w : World) (hck : chkMsg m = true) (hI0 : I64 m.kind) (hI1 : I64 m.n) (hlen : m.cmds.length ≤ 4611686018427387904 ∧ m.buns.length ≤ 4611686018427387904 ∧ m.ids.length ≤ 4611686018427387904) (hT : ofT m.kind = false) (hN : ofN m.kind = true) (hC : ofC m.kind = false) (hB : ofB m.kind = false) (hI : ofI m.kind = false)  (zC : m.cmds = []) (zB : m.buns = []) (zI : m.ids = []) (zn : m.t = 0) :
    Calls Tryz.prog 11 #[strV (eMsg m)] w (DecR m w) := by
  have hc : eMsg m = oct m.kind ++ (oct m.n ++ ([] : Bytes)) := by simp [eMsg, hT, hN, hC, hB, hI, Hg.part]
  have e0 := okArg_t
  have l1 : (octs [m.n]).length ≤ 1 * 9 := octs_len (by simpa using hI1)
  rw [octs_one] at l1
  have b0 : (oct m.n ++ ([] : Bytes)).length ≤ 1099511627776 := by rw [List.length_append]; simp; omega
  have b1 : (([] : Bytes)).length ≤ 1099511627776 := by simp
  have H0 : Hid (Rdr ((w.alloc (.cells #[i64 0, i64 0, i64 0, .slice none 0 0, .slice none 0 0, .slice none 0 0] 38)).alloc (.cells #[strV (eMsg m), .bool false] 128)) (w.heap.size + 1) (oct m.kind ++ (oct m.n ++ ([] : Bytes)))) := by
    have := Blk.new (w.alloc (.cells #[i64 0, i64 0, i64 0, .slice none 0 0, .slice none 0 0, .slice none 0 0] 38)) 128 #[strV (eMsg m), .bool false]
    rw [World.size_alloc, hc] at this
    rw [hc]
    exact this
  have hcH := Lib.hid hc
  have HI0 := Lib.hid hI0
  have HI1 := Lib.hid hI1
  have hv : ∀ (A : Option Addr) (c : Nat), msgV m (none, 0) (none, 0) (none, 0) = .agg #[i64 m.kind, i64 0, i64 m.n, .slice none 0 0, .slice none 0 0, .slice none 0 0] := by intro A c; simp only [msgV, zC, zB, zI, zn, List.length_nil]
  have HCK : Hid (∀ (A : Option Addr) (c : Nat) (w' : World), MsgIn w' m (none, 0) (none, 0) (none, 0) → Calls Tryz.prog 25 #[.agg #[i64 m.kind, i64 0, i64 m.n, .slice none 0 0, .slice none 0 0, .slice none 0 0]] w' (Ret (okArg true) w')) := by
    intro A c w' h
    have := checkMsg_any m (none, 0) (none, 0) (none, 0) w' h
    rw [hck, hv A c] at this
    exact this
  have HV := Lib.hid hv
  clear hv
  have B0 := Lib.hid b0
  have B1 := Lib.hid b1
  clear hc l1 b0 b1 hI0 hI1 hck
  generalize eMsg m = EM at H0 hcH ⊢
  go_enter Tryz.func11, Tryz.ntmps11
  go_wp2_with (first
    | (go_at_call 37; refine (octOf_any EM _).mono ?_; rintro e w1 ⟨rfl, rfl⟩)
    | (go_at_call 38; refine (rInt_any m.kind _ (w.heap.size + 1) _ HI0.out H0.out B0.out).mono ?_; rintro e w2 ⟨rfl, hr2, hg2⟩; have hs2 : w.heap.size + 1 < w2.heap.size := (by have := hg2.size; simp at this; omega); have hR2 : Blk w2 w.heap.size 38 #[i64 0, i64 0, i64 0, .slice none 0 0, .slice none 0 0, .slice none 0 0] := ((Blk.new w _ _).alloc _).chg hg2 (by simp); have hC2 : Chg [] w w2 := (((Chg.refl [] w).alloc _).alloc _).then_ hg2 (by intro i hi hm; simp at hm; omega))
    | (go_at_call 26; refine (of_any m.kind _).mono ?_; rintro e w3 ⟨rfl, hg3⟩; have hM3 : Blk w3 w2.heap.size 38 #[i64 m.kind, i64 0, i64 0, .slice none 0 0, .slice none 0 0, .slice none 0 0] := (Blk.new w2 _ _).chg hg3 (by simp); have kM3 := fun j => hM3.cell j; have fM3 := fun j => hM3.frozen j; have hr3 : Rdr w3 (w.heap.size + 1) _ := Blk.chg (Blk.alloc hr2 (.cells #[i64 m.kind, i64 0, i64 0, .slice none 0 0, .slice none 0 0, .slice none 0 0] 38)) hg3 (by simp); have hR3 := (hR2.alloc (.cells #[i64 m.kind, i64 0, i64 0, .slice none 0 0, .slice none 0 0, .slice none 0 0] 38)).chg hg3 (by simp); have hs3 : w2.heap.size < w3.heap.size := hM3.lt; have hC3 : Chg [] w w3 := (hC2.alloc (.cells #[i64 m.kind, i64 0, i64 0, .slice none 0 0, .slice none 0 0, .slice none 0 0] 38)).trans hg3)
    | (go_at_call 38; refine (rInt_any m.n _ (w.heap.size + 1) _ HI1.out (Blk.alloc hr3 _) B1.out).mono ?_; rintro e w4 ⟨rfl, hr4, hg4⟩; have hM4 := (hM3.alloc (.cells #[.bool false, .bool true, .bool false, .bool false, .bool false] 67)).chg hg4 (by simp; omega); have kM4 := fun j => hM4.cell j; have fM4 := fun j => hM4.frozen j; have hF4 : Blk w4 w3.heap.size 67 #[.bool false, .bool true, .bool false, .bool false, .bool false] := (Blk.new w3 _ _).chg hg4 (by simp; omega); have kF4 := fun j => hF4.cell j; have hR4 := (hR3.alloc (.cells #[.bool false, .bool true, .bool false, .bool false, .bool false] 67)).chg hg4 (by simp); have hs4 : w3.heap.size < w4.heap.size := hF4.lt; have hC4 : Chg [] w w4 := (hC3.alloc (.cells #[.bool false, .bool true, .bool false, .bool false, .bool false] 67)).then_ hg4 (by intro i hi hm; simp at hm; omega))
    | (go_at_call 45; refine (rDone_nil (w.heap.size + 1) _ (Blk.far hr4 (by simp; omega) _)).mono ?_; rintro e w8 ⟨rfl, rfl⟩)
    | (go_at_call 25; refine (HCK.out none 0 _ ⟨by rw [zC]; exact Rd.nil_, by rw [zB]; exact Rd.nil_, by rw [zI]; exact Rd.nil_, hlen⟩).mono ?_; rintro e w6 ⟨rfl, hg6⟩; have hM6 := (hM4.set_ 2 (i64 m.n)).chg hg6 (by simp); have kM6 := fun j => hM6.cell j; have hR6 := (hR4.far (by simp; omega) (i64 m.n)).chg hg6 (by simp); have kR6 := fun j => hR6.cell j; have fR6 := fun j => hR6.frozen j))
  have hMI : MsgIn (w4.setCell ⟨w2.heap.size, 2, none⟩ (i64 m.n)) m (none, 0) (none, 0) (none, 0) := ⟨by rw [zC]; exact Rd.nil_, by rw [zB]; exact Rd.nil_, by rw [zI]; exact Rd.nil_, hlen⟩
  have hCF : Chg [] w w6 := (hC4.setCell (p := ⟨w2.heap.size, 2, none⟩) (.inr (by simp; omega)) (i64 m.n)).then_ hg6 (by simp)
  have hMI6 := hMI.new_ hg6
  have hsz6 := hg6.size
  clear kM6 kR6 fR6 hM6
  change bodyPost _ _ _ _ _ (setMsg w6 w.heap.size _ _ _ _ _ _)
  refine bodyPost_ret (results_cell_tmp_row rfl _ _ w.heap.size 38 #[i64 m.kind, i64 0, i64 m.n, .slice none 0 0, .slice none 0 0, .slice none 0 0] (0, 0) _ rfl (setMsg_blk _ _ _ _ _ _ hR6) Tryz.underlying38 rfl (by kernel_rfl)) rfl ?_
  refine ⟨(none, 0), (none, 0), (none, 0), by rw [HV.out none 0]; rfl, hMI6.chg (S := [w.heap.size]) (setMsg_chg _ _ _ _ _ _ (Chg.refl _ _) (.inl (by simp))) ?_, setMsg_chg _ _ _ _ _ _ hCF (.inr (Nat.le_refl _)), ?_⟩
  · simp [blkOf]
  · simp [blkOf]

set_option maxHeartbeats 4000000 in
set_option maxRecDepth 100000 in
theorem dec_TB (m : Msg) (w : World) (hck : chkMsg m = true) (hI0 : I64 m.kind) (hI1 : I64 m.t) (hlen : m.cmds.length ≤ 4611686018427387904 ∧ m.buns.length ≤ 4611686018427387904 ∧ m.ids.length ≤ 4611686018427387904) (hT : ofT m.kind = true) (hN : ofN m.kind = false) (hC : ofC m.kind = false) (hB : ofB m.kind = true) (hI : ofI m.kind = false) (hL : lst true m.buns 1024 chkBun = true) (zC : m.cmds = []) (zI : m.ids = []) (zn : m.n = 0) :
    Calls Tryz.prog 11 #[strV (eMsg m)] w (DecR m w) := by
  have hc : eMsg m = oct m.kind ++ (oct m.t ++ eList eBun m.buns) := by simp [eMsg, hT, hN, hC, hB, hI, Hg.part]
  have e0 := okArg_t
  have l1 : (octs [m.t]).length ≤ 1 * 9 := octs_len (by simpa using hI1)
  rw [octs_one] at l1
  have hx : ∀ x ∈ m.buns, chkBun x = true := by simp only [lst, Bool.and_eq_true, List.all_eq_true] at hL; exact hL.2
  have hl : m.buns.length ≤ 1024 := by simp only [lst, Bool.and_eq_true, decide_eq_true_eq] at hL; omega
  have l2 : (eList eBun m.buns).length ≤ 9 + 1024 * 108 := eList_len (fun x h => eBun_len (hx x h)) (by omega)
  have T2 := Lib.hid (fun (w' : World) (h : Rdr w' (w.heap.size + 1) (eList eBun m.buns)) => takeListBun_any 1024 m.buns [] (w.heap.size + 1) w' (by rw [List.append_nil]; exact h) hl (by omega) hx (by simp))
  have b0 : (oct m.t ++ eList eBun m.buns).length ≤ 1099511627776 := by rw [List.length_append]; generalize (oct m.t).length = q1 at l1 ⊢; generalize (eList eBun m.buns).length = q2 at l2 ⊢; omega
  have b1 : (eList eBun m.buns).length ≤ 1099511627776 := by omega
  have H0 : Hid (Rdr ((w.alloc (.cells #[i64 0, i64 0, i64 0, .slice none 0 0, .slice none 0 0, .slice none 0 0] 38)).alloc (.cells #[strV (eMsg m), .bool false] 128)) (w.heap.size + 1) (oct m.kind ++ (oct m.t ++ eList eBun m.buns))) := by
    have := Blk.new (w.alloc (.cells #[i64 0, i64 0, i64 0, .slice none 0 0, .slice none 0 0, .slice none 0 0] 38)) 128 #[strV (eMsg m), .bool false]
    rw [World.size_alloc, hc] at this
    rw [hc]
    exact this
  have hcH := Lib.hid hc
  have HI0 := Lib.hid hI0
  have HI1 := Lib.hid hI1
  have hv : ∀ (A : Option Addr) (c : Nat), msgV m (none, 0) (A, c) (none, 0) = .agg #[i64 m.kind, i64 m.t, i64 0, .slice none 0 0, .slice A m.buns.length c, .slice none 0 0] := by intro A c; simp only [msgV, zC, zI, zn, List.length_nil]
  have HCK : Hid (∀ (A : Option Addr) (c : Nat) (w' : World), MsgIn w' m (none, 0) (A, c) (none, 0) → Calls Tryz.prog 25 #[.agg #[i64 m.kind, i64 m.t, i64 0, .slice none 0 0, .slice A m.buns.length c, .slice none 0 0]] w' (Ret (okArg true) w')) := by
    intro A c w' h
    have := checkMsg_any m (none, 0) (A, c) (none, 0) w' h
    rw [hck, hv A c] at this
    exact this
  have HV := Lib.hid hv
  clear hv
  have B0 := Lib.hid b0
  have B1 := Lib.hid b1
  clear hc l1 b0 b1 hI0 hI1 hck hx hl l2 hL
  generalize eMsg m = EM at H0 hcH ⊢
  go_enter Tryz.func11, Tryz.ntmps11
  go_wp2_with (first
    | (go_at_call 37; refine (octOf_any EM _).mono ?_; rintro e w1 ⟨rfl, rfl⟩)
    | (go_at_call 38; refine (rInt_any m.kind _ (w.heap.size + 1) _ HI0.out H0.out B0.out).mono ?_; rintro e w2 ⟨rfl, hr2, hg2⟩; have hs2 : w.heap.size + 1 < w2.heap.size := (by have := hg2.size; simp at this; omega); have hR2 : Blk w2 w.heap.size 38 #[i64 0, i64 0, i64 0, .slice none 0 0, .slice none 0 0, .slice none 0 0] := ((Blk.new w _ _).alloc _).chg hg2 (by simp); have hC2 : Chg [] w w2 := (((Chg.refl [] w).alloc _).alloc _).then_ hg2 (by intro i hi hm; simp at hm; omega))
    | (go_at_call 26; refine (of_any m.kind _).mono ?_; rintro e w3 ⟨rfl, hg3⟩; have hM3 : Blk w3 w2.heap.size 38 #[i64 m.kind, i64 0, i64 0, .slice none 0 0, .slice none 0 0, .slice none 0 0] := (Blk.new w2 _ _).chg hg3 (by simp); have kM3 := fun j => hM3.cell j; have fM3 := fun j => hM3.frozen j; have hr3 : Rdr w3 (w.heap.size + 1) _ := Blk.chg (Blk.alloc hr2 (.cells #[i64 m.kind, i64 0, i64 0, .slice none 0 0, .slice none 0 0, .slice none 0 0] 38)) hg3 (by simp); have hR3 := (hR2.alloc (.cells #[i64 m.kind, i64 0, i64 0, .slice none 0 0, .slice none 0 0, .slice none 0 0] 38)).chg hg3 (by simp); have hs3 : w2.heap.size < w3.heap.size := hM3.lt; have hC3 : Chg [] w w3 := (hC2.alloc (.cells #[i64 m.kind, i64 0, i64 0, .slice none 0 0, .slice none 0 0, .slice none 0 0] 38)).trans hg3)
    | (go_at_call 38; refine (rInt_any m.t _ (w.heap.size + 1) _ HI1.out (Blk.alloc hr3 _) B1.out).mono ?_; rintro e w4 ⟨rfl, hr4, hg4⟩; have hM4 := (hM3.alloc (.cells #[.bool true, .bool false, .bool false, .bool true, .bool false] 67)).chg hg4 (by simp; omega); have kM4 := fun j => hM4.cell j; have fM4 := fun j => hM4.frozen j; have hF4 : Blk w4 w3.heap.size 67 #[.bool true, .bool false, .bool false, .bool true, .bool false] := (Blk.new w3 _ _).chg hg4 (by simp; omega); have kF4 := fun j => hF4.cell j; have hR4 := (hR3.alloc (.cells #[.bool true, .bool false, .bool false, .bool true, .bool false] 67)).chg hg4 (by simp); have hs4 : w3.heap.size < w4.heap.size := hF4.lt; have hC4 : Chg [] w w4 := (hC3.alloc (.cells #[.bool true, .bool false, .bool false, .bool true, .bool false] 67)).then_ hg4 (by intro i hi hm; simp at hm; omega))
    | (go_at_call 41; refine (T2.out _ (Blk.far hr4 (by simp; omega) _)).mono ?_; rintro e w5 ⟨v, rfl, hown, hr5, hg5⟩; obtain ⟨A, c, rfl⟩ := own_slice hown;
        have hM5 := (hM4.set_ 1 (i64 m.t)).chg hg5 (by simp; omega); have hF5 := (hF4.far (by simp; omega) (i64 m.t)).chg hg5 (by simp; omega); have hR5 := (hR4.far (by simp; omega) (i64 m.t)).chg hg5 (by simp); have kM5 := fun j => hM5.cell j; have fM5 := fun j => hM5.frozen j; have kF5 := fun j => hF5.cell j; have hs5 : w3.heap.size < w5.heap.size := hF5.lt; have hC5 : Chg [] w w5 := (hC4.setCell (p := ⟨w2.heap.size, 1, none⟩) (.inr (by simp; omega)) (i64 m.t)).then_ hg5 (by intro i hi hm; simp at hm; omega))
    | (go_at_call 45; refine (rDone_nil (w.heap.size + 1) _ (Blk.far hr5 (by simp; omega) _)).mono ?_; rintro e w8 ⟨rfl, rfl⟩)
    | (go_at_call 25; refine (HCK.out A c _ ⟨by rw [zC]; exact Rd.nil_, Rd.chg (Rd.of_own hown) ((Chg.refl [w2.heap.size] w5).setCell (p := ⟨w2.heap.size, 4, none⟩) (.inl (by simp)) _) (by intro q hq hn hm; simp at hq; subst hq; have := (own_blk hown _ hm).1; simp at this; omega), by rw [zI]; exact Rd.nil_, hlen⟩).mono ?_; rintro e w6 ⟨rfl, hg6⟩; have hM6 := (hM5.set_ 4 (.slice A m.buns.length c)).chg hg6 (by simp); have kM6 := fun j => hM6.cell j; have hR6 := (hR5.far (by simp; omega) (.slice A m.buns.length c)).chg hg6 (by simp); have kR6 := fun j => hR6.cell j; have fR6 := fun j => hR6.frozen j))
  have hMI : MsgIn (w5.setCell ⟨w2.heap.size, 4, none⟩ (.slice A m.buns.length c)) m (none, 0) (A, c) (none, 0) := ⟨by rw [zC]; exact Rd.nil_, Rd.chg (Rd.of_own hown) ((Chg.refl [w2.heap.size] w5).setCell (p := ⟨w2.heap.size, 4, none⟩) (.inl (by simp)) _) (by intro q hq hn hm; simp at hq; subst hq; have := (own_blk hown _ hm).1; simp at this; omega), by rw [zI]; exact Rd.nil_, hlen⟩
  have hCF : Chg [] w w6 := (hC5.setCell (p := ⟨w2.heap.size, 4, none⟩) (.inr (by simp; omega)) (.slice A m.buns.length c)).then_ hg6 (by simp)
  have hMI6 := hMI.new_ hg6
  have hsz6 := hg6.size
  clear kM6 kR6 fR6 hM6
  change bodyPost _ _ _ _ _ (setMsg w6 w.heap.size _ _ _ _ _ _)
  refine bodyPost_ret (results_cell_tmp_row rfl _ _ w.heap.size 38 #[i64 m.kind, i64 m.t, i64 0, .slice none 0 0, .slice A m.buns.length c, .slice none 0 0] (0, 0) _ rfl (setMsg_blk _ _ _ _ _ _ hR6) Tryz.underlying38 rfl (by kernel_rfl)) rfl ?_
  refine ⟨(none, 0), (A, c), (none, 0), by rw [HV.out A c]; rfl, hMI6.chg (S := [w.heap.size]) (setMsg_chg _ _ _ _ _ _ (Chg.refl _ _) (.inl (by simp))) ?_, setMsg_chg _ _ _ _ _ _ hCF (.inr (Nat.le_refl _)), ?_⟩
  · intro q hq; simp at hq; subst hq; simp only [blkOf, List.not_mem_nil, not_false_eq_true, true_and, and_true]; intro hm; have := (own_blk hown _ hm).1; simp at this; omega
  · intro q hq; simp only [blkOf, List.not_mem_nil, or_false, false_or] at hq; have h1 := own_blk hown _ hq; simp [setMsg, World.setCell] at h1 hsz6 ⊢; omega

theorem combos {m : Msg} (h : chkMsg m = true) : I64 m.kind ∧ (m.kind = 1 ∨ (m.kind = 2 ∨ m.kind = 3 ∨ m.kind = 5 ∨ m.kind = 6 ∨ m.kind = 11) ∨ m.kind = 4 ∨ m.kind = 7 ∨ (m.kind = 8 ∨ m.kind = 9 ∨ m.kind = 10) ∨ m.kind = 12) := by
  simp only [chkMsg, Bool.and_eq_true, ofOk, decide_eq_true_eq] at h
  refine ⟨by unfold I64; omega, by omega⟩
theorem num_i64' {has : Bool} {n : Int} (h : num has n = true) : I64 n := by
  unfold num at h; unfold I64
  split at h
  · simp at h; omega
  · simp at h; omega
theorem num_zero {n : Int} (h : num false n = true) : n = 0 := by simpa [num] using h
theorem lst_nil {α : Type} {l : List α} {k : Nat} {chk : α → Bool} (h : lst false l k chk = true) : l = [] := by
  simp [lst] at h; exact h.1.1
theorem chkMsg_parts {m : Msg} (h : chkMsg m = true) : num (ofT m.kind) m.t = true ∧ num (ofN m.kind) m.n = true ∧ lst (ofC m.kind) m.cmds 64 chkCmd = true ∧ lst (ofB m.kind) m.buns 1024 chkBun = true ∧ lst (ofI m.kind) m.ids 1024 chkID = true := by
  simp only [chkMsg, Bool.and_eq_true] at h
  exact ⟨h.1.1.1.1.1.2, h.1.1.1.1.2, h.1.1.1.2, h.1.1.2, h.1.2⟩
theorem lst_len {α : Type} {has : Bool} {l : List α} {k : Nat} {chk : α → Bool} (h : lst has l k chk = true) : l.length ≤ k := by
  simp only [lst, Bool.and_eq_true, decide_eq_true_eq] at h; exact h.1.2
theorem chkMsg_len {m : Msg} (h : chkMsg m = true) : m.cmds.length ≤ 64 ∧ m.buns.length ≤ 1024 ∧ m.ids.length ≤ 1024 := by
  obtain ⟨_, _, c, d, e⟩ := chkMsg_parts h
  exact ⟨lst_len c, lst_len d, lst_len e⟩

theorem enc_any (m : Msg) (s1 s2 s3 : Option Addr × Nat) (w : World) (h : MsgIn w m s1 s2 s3) (hck : chkMsg m = true) :
    Calls Tryz.prog 7 #[msgV m s1 s2 s3] w (Ret (.tuple #[strV (eMsg m), .int .i64 0]) w) := by
  obtain ⟨hk, hc⟩ := combos hck
  obtain ⟨a, b, c, d, e⟩ := chkMsg_parts hck
  have ia := num_i64' a
  have ib := num_i64' b
  rcases hc with q | (q | q | q | q | q) | q | q | (q | q | q) | q
  · exact enc_TC m s1 s2 s3 w h hck hk ia (by rw [q]; rfl) (by rw [q]; rfl) (by rw [q]; rfl) (by rw [q]; rfl) (by rw [q]; rfl) (by rw [q] at c; exact c)
  iterate 5 exact enc_T m s1 s2 s3 w h hck hk ia (by rw [q]; rfl) (by rw [q]; rfl) (by rw [q]; rfl) (by rw [q]; rfl) (by rw [q]; rfl)
  · exact enc_TI m s1 s2 s3 w h hck hk ia (by rw [q]; rfl) (by rw [q]; rfl) (by rw [q]; rfl) (by rw [q]; rfl) (by rw [q]; rfl) (by rw [q] at e; exact e)
  · exact enc_NB m s1 s2 s3 w h hck hk ib (by rw [q]; rfl) (by rw [q]; rfl) (by rw [q]; rfl) (by rw [q]; rfl) (by rw [q]; rfl) (by rw [q] at d; exact d)
  iterate 3 exact enc_N m s1 s2 s3 w h hck hk ib (by rw [q]; rfl) (by rw [q]; rfl) (by rw [q]; rfl) (by rw [q]; rfl) (by rw [q]; rfl)
  · exact enc_TB m s1 s2 s3 w h hck hk ia (by rw [q]; rfl) (by rw [q]; rfl) (by rw [q]; rfl) (by rw [q]; rfl) (by rw [q]; rfl) (by rw [q] at d; exact d)

theorem dec_any (m : Msg) (w : World) (hck : chkMsg m = true) : Calls Tryz.prog 11 #[strV (eMsg m)] w (DecR m w) := by
  obtain ⟨hk, hc⟩ := combos hck
  obtain ⟨a, b, c, d, e⟩ := chkMsg_parts hck
  have ia := num_i64' a
  have ib := num_i64' b
  have hlen : m.cmds.length ≤ 4611686018427387904 ∧ m.buns.length ≤ 4611686018427387904 ∧ m.ids.length ≤ 4611686018427387904 := by have := chkMsg_len hck; omega
  rcases hc with q | (q | q | q | q | q) | q | q | (q | q | q) | q
  · exact dec_TC m w hck hk ia hlen (by rw [q]; rfl) (by rw [q]; rfl) (by rw [q]; rfl) (by rw [q]; rfl) (by rw [q]; rfl) (by rw [q] at c; exact c) (by rw [q] at d; exact lst_nil d) (by rw [q] at e; exact lst_nil e) (by rw [q] at b; exact num_zero b)
  iterate 5 exact dec_T m w hck hk ia hlen (by rw [q]; rfl) (by rw [q]; rfl) (by rw [q]; rfl) (by rw [q]; rfl) (by rw [q]; rfl) (by rw [q] at c; exact lst_nil c) (by rw [q] at d; exact lst_nil d) (by rw [q] at e; exact lst_nil e) (by rw [q] at b; exact num_zero b)
  · exact dec_TI m w hck hk ia hlen (by rw [q]; rfl) (by rw [q]; rfl) (by rw [q]; rfl) (by rw [q]; rfl) (by rw [q]; rfl) (by rw [q] at e; exact e) (by rw [q] at c; exact lst_nil c) (by rw [q] at d; exact lst_nil d) (by rw [q] at b; exact num_zero b)
  · exact dec_NB m w hck hk ib hlen (by rw [q]; rfl) (by rw [q]; rfl) (by rw [q]; rfl) (by rw [q]; rfl) (by rw [q]; rfl) (by rw [q] at d; exact d) (by rw [q] at c; exact lst_nil c) (by rw [q] at e; exact lst_nil e) (by rw [q] at a; exact num_zero a)
  iterate 3 exact dec_N m w hck hk ib hlen (by rw [q]; rfl) (by rw [q]; rfl) (by rw [q]; rfl) (by rw [q]; rfl) (by rw [q]; rfl) (by rw [q] at c; exact lst_nil c) (by rw [q] at d; exact lst_nil d) (by rw [q] at e; exact lst_nil e) (by rw [q] at a; exact num_zero a)
  · exact dec_TB m w hck hk ia hlen (by rw [q]; rfl) (by rw [q]; rfl) (by rw [q]; rfl) (by rw [q]; rfl) (by rw [q]; rfl) (by rw [q] at d; exact d) (by rw [q] at c; exact lst_nil c) (by rw [q] at e; exact lst_nil e) (by rw [q] at b; exact num_zero b)

set_option maxHeartbeats 1000000 in
set_option maxRecDepth 100000 in
/-- a message that may not be: no bytes, and api's ErrArg -/
theorem enc_bad (m : Msg) (s1 s2 s3 : Option Addr × Nat) (w : World) (h : MsgIn w m s1 s2 s3) (hck : chkMsg m = false) :
    Calls Tryz.prog 7 #[msgV m s1 s2 s3] w (Ret (.tuple #[strV [], .int .i64 1]) w) := by
  have e0 := okArg_f
  have c1 := Lib.hid (fun w' (hg : Chg [] w w') => checkMsg_any m s1 s2 s3 w' (h.new_ hg))
  rw [hck] at c1
  clear h hck
  go_enter Tryz.func7, Tryz.ntmps7
  go_wp2_with (go_at_call 25; refine (c1.out _ ((Chg.refl [] w).alloc _)).mono ?_; rintro e w1 ⟨rfl, hg1⟩)
  go_returns
  exact ⟨rfl, ((Chg.refl [] w).alloc _).trans hg1⟩
end Go.Proofs.YtofnehgjkdcmnaaGreatDoor

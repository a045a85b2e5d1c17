/- Texts that wait: a row of the own, or the end of one with no room behind it; the walk of Say of one text. -/
import Derived.Test.YteajdkneiejlaaaGSay
import Derived.Test.YteajdkneiejlaaaGPl
namespace Go.Proofs.Yteajdkneiejlaaa
open Go.RowKit Hg

/-- a slice of texts: a row of the own, or full -/
def WaitAt (w : World) (base : Nat) (v : Value) (n : Nat) (xs : List Value) : Prop :=
  w.ownsRow base 9 1 v n xs ∨ ∃ A : Option Addr, v = .slice A n n ∧ Rd w 1 A n xs

theorem WaitAt.form {w : World} {base n : Nat} {v : Value} {xs : List Value} (h : WaitAt w base v n xs) : ∃ A c, v = .slice A n c ∧ n ≤ c ∧ Rd w 1 A n xs := by
  rcases h with h | ⟨A, rfl, hr⟩
  · obtain ⟨A, c, rfl⟩ := own_slice' h
    refine ⟨A, c, rfl, ?_, Rd.of_own h⟩
    rcases h.2 with ⟨hv, rfl⟩ | ⟨g, cap, cur, hv, _, _, hnc, _⟩
    · omega
    · injection hv with _ _ h3; omega
  · exact ⟨A, n, rfl, Nat.le_refl _, hr⟩
theorem WaitAt.chg {w w' : World} {S : List Nat} {base n : Nat} {v : Value} {xs : List Value} (h : WaitAt w base v n xs) (hb : Chg S w w') (hS : ∀ q ∈ S, q ∉ rowOf v) : WaitAt w' base v n xs := by
  rcases h with h | ⟨A, rfl, hr⟩
  · exact .inl (own_chg h hb (by intro q hq hm; exact hS q hm (by rw [rowOf, hq]; simp)))
  · refine .inr ⟨A, rfl, hr.chg hb fun q hq _ hm => hS q hq ?_⟩
    cases A with
    | none => simp [blkOf] at hm
    | some a => simpa [blkOf, rowOf, Value.ownBlock] using hm

theorem run_append_wait {P : Program} (w : World) (base : Nat) (t ty e : TypeId) (i : TypeInfo) (z : Value) (bytes : Nat) (ht : P.underlying t = some (.slice e)) (hi : P.info? e = some i) (hz : i.zero = some z)
    (hsize : i.size = 1) (hby : i.bytes = bytes) (hzs : z.cells.size = 1)
    (v : Value) (n : Nat) (xs : List Value) (hown : w.ownsRow base e 1 v n xs ∨ ∃ A : Option Addr, v = .slice A n n ∧ Rd w 1 A n xs)
    (a : Addr) (c : Nat) (u : Value) (hu : w.cell? a = some u) (h1 : u.oneCell' = true)
    (h63 : n + 1 ≤ maxLen) (hbytes : (n + 1) * bytes ≤ 140737488355328) (hbase : base ≤ w.heap.size) :
    ∃ v' w', (Builtin.append_ #[t, t] ty #[v, .slice (some a) 1 c]).run P w = .ok v' w' ∧ w'.ownsRow base e 1 v' (n + 1) (xs ++ [u]) ∧ w.grownBy w' v.ownBlock ∧ (v'.ownBlock = v.ownBlock ∨ v'.ownBlock = some w.heap.size) := by
  have hnews : ∀ j x, [u][j]? = some x → w.cell? (a.add j) = some x := by
    intro j x hj
    match j, hj with
    | 0, hj => simp at hj; subst hj; simpa [Addr.add] using hu
  have own : w.ownsRow base e 1 v n xs → _ := fun hown => run_append_own_at (P := P) w base t ty e i z 1 bytes ht hi hz hsize hby hzs (by decide) v n xs hown a 1 c [u] rfl hnews (by simpa using h1) h63 hbytes hbase
  rcases hown with hown | ⟨A, rfl, hr⟩
  · obtain ⟨v', w', hr, h2, h3, _, h5⟩ := own hown
    exact ⟨v', w', hr, h2, h3, h5⟩
  · cases A with
    | none =>
      have hn : n = 0 := by
        rcases Nat.eq_zero_or_pos n with h | h
        · exact h
        · obtain ⟨ad, e, _⟩ := hr.2 h; cases e
      subst hn
      have hx : xs = [] := List.eq_nil_of_length_eq_zero (by simpa using hr.1)
      subst hx
      obtain ⟨v', w', hr, h2, h3, _, h5⟩ := own (World.ownsRow_nil w base e 1)
      exact ⟨v', w', hr, h2, h3, h5⟩
    | some b =>
      subst hby
      have holds : ∀ j x, xs[j]? = some x → w.cell? (b.add j) = some x := by
        intro j x hj
        have hl := (List.getElem?_eq_some_iff.1 hj).1
        obtain ⟨ad, e, hc⟩ := hr.2 (by have := hr.1; omega)
        cases e
        exact hc j x hj
      have hxl : xs.length = n := by simpa using hr.1
      have hg := run_append_grow (P := P) w t ty e i z ht hi hz b n n xs (by rw [hsize]; exact hr.1) holds a 1 c [u] (by rw [hsize]; rfl) hnews (by omega) (by unfold maxLen at h63; omega) (growslice_fits (by omega) hbytes)
      have hge := grownCap_ge w (n + 1) n e
      have hcm : grownCap w (n + 1) n e ≤ maxLen := grownCap_le_maxLen w (n + 1) n e h63
      refine ⟨_, _, hg, ⟨by simp [hxl], .inr ⟨w.heap.size, _, _, rfl, hbase, heap_alloc_new w.drew _, hge, hcm, ?_, ?_⟩⟩, ⟨rfl, rfl, rfl, by simp, fun k hk _ => Below.heap_alloc w.drew _ k hk⟩, .inr rfl⟩
      · simp only [Array.size_append, List.size_toArray, size_zeroCells, hzs, hxl, List.length_cons, List.length_nil]; omega
      · simp only [Array.toList_append, List.append_assoc]
        rw [← List.append_assoc]
        have : (n + 1) * 1 = (xs ++ [u]).length := by simp [hxl]
        rw [this]
        exact List.take_left

theorem wpList_append_wait {P : Program} (w : World) {ops : Array Oper} {rest : List Oper} {o : Oper} {a : Act} {Q : Exit → Act → World → Prop} (hgd : o.guard = none) (s x : Operand) (t : TypeId)
    (ho : o.op = .call { callee := .builtin .append, args := #[s, x], argTypes := #[t, t] })
    (base : Nat) (e : TypeId) (i : TypeInfo) (z : Value) (bytes : Nat) (ht : P.underlying t = some (.slice e)) (hi : P.info? e = some i) (hz : i.zero = some z)
    (hsize : i.size = 1) (hby : i.bytes = bytes) (hzs : z.cells.size = 1)
    (v : Value) (n : Nat) (xs : List Value) (hs : a.eval s = v) (hown : w.ownsRow base e 1 v n xs ∨ ∃ A : Option Addr, v = .slice A n n ∧ Rd w 1 A n xs)
    (ad : Addr) (c : Nat) (u : Value) (hx : a.eval x = .slice (some ad) 1 c) (hu : w.cell? ad = some u) (h1 : u.oneCell' = true)
    (h63 : n + 1 ≤ maxLen) (hbytes : (n + 1) * bytes ≤ 140737488355328) (hbase : base ≤ w.heap.size)
    (h : ∀ v' w', w'.ownsRow base e 1 v' (n + 1) (xs ++ [u]) → w.grownBy w' v.ownBlock → (v'.ownBlock = v.ownBlock ∨ v'.ownBlock = some w.heap.size) → wpList P ops Q rest (a.put o.dst v') w') :
    wpList P ops Q (o :: rest) a w := by
  refine wpList_plain hgd fun K hK => ?_
  obtain ⟨v', w', hr, h2, h3, h5⟩ := run_append_wait (P := P) w base t o.type e i z bytes ht hi hz hsize hby hzs v n xs hown ad c u hu h1 h63 hbytes hbase
  unfold Oper.wp execOp
  simp only [ho, resolve, invoke, builtin, Sem.run_bind, Sem.run_pure, Result.andThen_ok, List.map_toArray, List.map_cons, List.map_nil, hs, hx, hr]
  exact hK _ _ (h v' w' h2 h3 h5)

/-- an end of a channel: its cells, v its texts' slice -/
abbrev chanC (c : Hg.Chan Msg) (v : Value) : Array Value := #[i64 c.mine, i64 c.yours, i64 c.first, v, i64 c.last, .bool c.met, .bool c.owes]
/-- the texts of some messages -/
abbrev txtL (l : List Msg) : List Value := l.map fun m => strV (eMsg m)
structure ChanAt (w : World) (C base : Nat) (v : Value) (c : Hg.Chan Msg) : Prop where
  blk : Blk w C 83 (chanC c v)
  wait : WaitAt w base v c.wait.length (txtL c.wait)
  ne : C ∉ rowOf v

theorem infoStr : (Try.prog.info? 9).map (fun i => (i.zero, i.size, i.bytes)) = some (some (.string ⟨#[]⟩), 1, 16) := by kernel_rfl

theorem ChanAt.chg {w w' : World} {S : List Nat} {C base : Nat} {v : Value} {c : Hg.Chan Msg} (h : ChanAt w C base v c) (hb : Chg S w w') (hS : ∀ q ∈ S, q ∉ C :: rowOf v) : ChanAt w' C base v c :=
  ⟨h.blk.chg hb (fun hm => hS C hm (by simp)), h.wait.chg hb (fun q hq hm => hS q hq (List.mem_cons_of_mem _ hm)), h.ne⟩

set_option maxHeartbeats 1000000 in
set_option maxRecDepth 100000 in
theorem say_long (C _base : Nat) (_v : Value) (_c : Hg.Chan Msg) (t : Bytes) (A : Option Addr) (w : World) (hr : Rd w 1 A 1 [strV t]) (hl : 65472 < t.length) :
    Calls Try.prog 19 #[.pointer (some ⟨C, 0, none⟩), .slice A 1 1] w (Ret (.int .i64 1) w) := by
  have S1 := Lib.hid (strContains_any t A 1 w hr)
  have e1 : decide (65472 < t.length) = true := by simpa using hl
  rw [e1] at S1
  clear hr hl e1
  go_enter Try.func19, Try.ntmps19
  go_wp2_with (go_at_call 40; refine S1.out.mono ?_; rintro e w1 ⟨rfl, hg1⟩)
  go_ret
  exact ⟨rfl, hg1⟩

set_option maxHeartbeats 1000000 in
set_option maxRecDepth 100000 in
theorem say_full (C base : Nat) (v : Value) (c : Hg.Chan Msg) (t : Bytes) (A : Option Addr) (w : World) (hC : ChanAt w C base v c) (hr : Rd w 1 A 1 [strV t]) (hl : t.length ≤ 65472) (hf : 1024 ≤ c.wait.length) (hf2 : c.wait.length ≤ 1024) :
    Calls Try.prog 19 #[.pointer (some ⟨C, 0, none⟩), .slice A 1 1] w (Ret (.int .i64 8) w) := by
  have S1 := Lib.hid (strContains_any t A 1 w hr)
  have e1 : decide (65472 < t.length) = false := by simpa using hl
  rw [e1] at S1
  obtain ⟨B, cp, rfl, _, _⟩ := hC.wait.form
  have hlt := hC.blk.lt
  have c3 : w.cell? ⟨C, 3, none⟩ = some (.slice B c.wait.length cp) := hC.blk.cell 3
  generalize c.wait.length = n at c3 hf hf2
  have e2 : decide ((1024 : Int) - (n : Int) < 1) = true := by simp; omega
  clear hr hl e1 hC hf
  go_enter Try.func19, Try.ntmps19
  go_wp2_with (go_at_call 40; refine S1.out.mono ?_; rintro e w1 ⟨rfl, hg1⟩; have k1 := cells_keep hg1 hlt (by simp))
  go_ret
  exact ⟨rfl, hg1⟩

set_option maxHeartbeats 2000000 in
set_option maxRecDepth 100000 in
theorem say_any (C base : Nat) (v : Value) (c : Hg.Chan Msg) (m : Msg) (A : Option Addr) (w : World) (hC : ChanAt w C base v c) (hb : base ≤ w.heap.size) (hr : Rd w 1 A 1 [strV (eMsg m)]) (hl : (eMsg m).length ≤ 65472) (hf : c.wait.length < 1024) :
    Calls Try.prog 19 #[.pointer (some ⟨C, 0, none⟩), .slice A 1 1] w fun e w' => e = .returned (.int .i64 0) ∧
      ∃ v', ChanAt w' C base v' { c with wait := c.wait ++ [m] } ∧ Lies w v v' ∧ Chg (C :: rowOf v) w w' := by
  obtain ⟨i0, hi, hz0, hz1, hz2⟩ := info_parts infoStr
  have S1 := Lib.hid (strContains_any (eMsg m) A 1 w hr)
  have e1 : decide (65472 < (eMsg m).length) = false := by simpa using hl
  rw [e1] at S1
  obtain ⟨B, cp, rfl, hnc, _⟩ := hC.wait.form
  have hlt := hC.blk.lt
  have c3 : w.cell? ⟨C, 3, none⟩ = some (.slice B c.wait.length cp) := hC.blk.cell 3
  have HC := Lib.hid hC
  have HR := Lib.hid hr
  obtain ⟨ad, rfl, _⟩ := hr.2 (by omega)
  obtain ⟨n, hn⟩ : ∃ n, c.wait.length = n := ⟨_, rfl⟩
  have HN := Lib.hid hn
  rw [hn] at c3 hf hnc
  have e2 : decide ((1024 : Int) - (n : Int) < 1) = false := by simp; omega
  have hf2 : Hid (n < 1024) := hf
  clear hr hl e1 hC hn
  rw [HN.out]
  go_enter Try.func19, Try.ntmps19
  go_wp2_with (first
    | (go_at_call 40; refine S1.out.mono ?_; rintro e w1 ⟨rfl, hg1⟩; have k1 := cells_keep hg1 hlt (by simp))
    | (at_builtin; refine wpList_append_wait _ rfl (.tmp 24) (.tmp 25) 81 rfl base 9 i0 _ 16 Try.underlying81 hi hz0 hz1 hz2 rfl (.slice B n cp) n (txtL c.wait) rfl (by have := (HC.out.chg hg1 (by simp)).wait; rw [HN.out] at this; exact this) ad 1 (strV (eMsg m)) rfl (by obtain ⟨ad', he, hc⟩ := (HR.out.new_ hg1).2 (by omega); cases he; have := hc 0 _ rfl; simpa [Addr.add] using this) (by simp [Value.oneCell']) (by have := hf2.out; unfold maxLen; omega) (by have := hf2.out; omega) (by have := hg1.size; omega) ?_))
  intro v2 w2 hown2 hgrow hat
  have hB1 := HC.out.blk.chg hg1 (by simp)
  have hne := HC.out.ne
  have hB2 : Blk w2 C 83 (chanC c (.slice B n cp)) := by
    have := (hgrow.block C hB1.lt (fun e => hne (by rw [rowOf, ← HN.out] at *; rw [HN.out]; rw [← e]; simp))).trans hB1
    rw [HN.out] at this
    exact this
  have q1 : w2.cell? ⟨C, 3, none⟩ = some (.slice B n cp) := hB2.cell 3
  have f1 := hB2.frozen 3
  obtain ⟨B2, c2, rfl⟩ := own_slice' hown2
  go_wp2_with fail
  go_returns
  have hne2 : C ∉ rowOf (.slice B2 (n + 1) c2) := fun hm => own_ne_blk hown2 hB2 (by decide) (by unfold rowOf at hm; simpa using hm)
  have hS : Chg (C :: rowOf (.slice B n cp)) w w2 := (hg1.mono (S' := C :: rowOf (.slice B n cp)) (by simp)).then_ (Chg.of_grown (S := rowOf (.slice B n cp)) hgrow (fun q e => .inl (by rw [rowOf, e]; simp))) (by intro i hi hm; exact List.mem_cons_of_mem _ hm)
  refine ⟨rfl, .slice B2 (n + 1) c2, ⟨hB2.set_ 3 _, ?_, hne2⟩, Lies.of_at hat hg1.size, hS.setCell (.inl (by simp)) _⟩
  refine .inl (own_chg (w := w2) ?_ ((Chg.refl [C] w2).setCell (p := ⟨C, 3, none⟩) (.inl (by simp)) _) (by intro q hq hm; simp at hm; subst hm; exact hne2 (by rw [rowOf, hq]; simp)))
  simp only [txtL, List.map_append, List.map_cons, List.map_nil, List.length_append, List.length_cons, List.length_nil]
  rw [HN.out]
  exact hown2
end Go.Proofs.Yteajdkneiejlaaa

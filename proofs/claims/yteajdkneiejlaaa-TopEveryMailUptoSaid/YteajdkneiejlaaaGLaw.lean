/- The walk of TopEveryMail. (made by a small program) -/
import Derived.StillTailTactics
import Derived.IntWalk
import Derived.Deep.LoopGhost
import Derived.Test.YteajdkneiejlaaaGLawU
namespace Go.Proofs.Yteajdkneiejlaaa
open Go.RowKit Hg

def LawO (W : World) (P C0 D : Nat) (xa xb : List HM) (nl : Nat) (i k n : Value) (wr : World) : Prop :=
  ∃ ni nk nn p g0 g1 y0 y1, i = .int .i64 (ni : Nat) ∧ k = .int .i64 (nk : Nat) ∧ n = .int .i64 (nn : Nat) ∧ nn ≤ nl ∧ LawI W P C0 D xa xb ni nk p g0 g1 y0 y1 wr
def SayA (W : World) (P C0 D : Nat) (xa xb : List HM) (nk : Nat) (g1 : Value) (y1 : List HM) (i : Value) (wr : World) : Prop :=
  ∃ ni p g0 y0, i = .int .i64 (ni : Nat) ∧ LawI W P C0 D xa xb ni nk p g0 g1 y0 y1 wr
def SayB (W : World) (P C0 D : Nat) (xa xb : List HM) (ni : Nat) (g0 : Value) (y0 : List HM) (k : Value) (wr : World) : Prop :=
  ∃ nk p g1 y1, k = .int .i64 (nk : Nat) ∧ LawI W P C0 D xa xb ni nk p g0 g1 y0 y1 wr

theorem LawI.new_ {W wr w' : World} {P C0 D : Nat} {xa xb : List HM} {ni nk : Nat} {p : Pair Msg} {g0 g1 : Value} {y0 y1 : List HM} (h : LawI W P C0 D xa xb ni nk p g0 g1 y0 y1 wr) (hg : Chg [] wr w') : LawI W P C0 D xa xb ni nk p g0 g1 y0 y1 w' := by
  obtain ⟨F, ⟨C1, N, v0, v1, vn, a0, a1, x0, x1, hP⟩, hF⟩ := h.at_.pair
  exact h.stepd hF h.inv ⟨_, _, _, _, _, _, _, _, _, hP.new_ hg⟩ (ChgF.of (S := []) hg hP.base (by simp))
theorem law_comes0 {W wr : World} {P C0 D : Nat} {xa xb : List HM} {ni nk : Nat} {p : Pair Msg} {g0 g1 : Value} {y0 y1 : List HM} (h : LawI W P C0 D xa xb ni nk p g0 g1 y0 y1 wr) (hj : 0 < p.net.length) : Calls Try.prog 9 #[ptrV P, .int .i64 0] wr (Stepd W P C0 D xa xb ni nk (p.comes 0) g0 g1 y0 y1) := law_comes h 0 hj
def FinL (W : World) (P C0 D : Nat) (xa xb : List HM) (ni nk : Nat) (g0 g1 : Value) (y0 y1 : List HM) (n : Value) (wr : World) : Prop :=
  ∃ (nn : Nat) (p : Pair Msg), n = .int .i64 (nn : Nat) ∧ LawI W P C0 D xa xb ni nk p g0 g1 y0 y1 wr ∧ (nn = 0 ∨ (0 < nn ∧ nn ≤ 2052 ∧ Head p (y0.map HM.m) (y1.map HM.m) nn))
def RndL (W : World) (P C0 D : Nat) (xa xb : List HM) (ni nk : Nat) (g0 g1 : Value) (y0 y1 : List HM) (p : Pair Msg) (n : Nat) (wr : World) : Prop :=
  ∃ q, LawI W P C0 D xa xb ni nk q g0 g1 y0 y1 wr ∧ Round p q (y0.map HM.m) (y1.map HM.m) ∧ q.net.length = n
/-- what came in, as it stands now -/
theorem LawI.args {W wr : World} {P C0 D : Nat} {xa xb : List HM} {ni nk : Nat} {p : Pair Msg} {g0 g1 : Value} {y0 y1 : List HM} (h : LawI W P C0 D xa xb ni nk p g0 g1 y0 y1 wr) : Chg [] W wr := h.chg.chg

def FinN (W : World) (P D C0 C1 N : Nat) (A0 A1 B0 B1 : Option Addr) (n0 n1 c0 c1 d0 d1 : Nat) (x0 x1 y0 y1 : List HM) (n : Value) (wr : World) : Prop :=
  ∃ k : Nat, n = .int .i64 (k : Nat) ∧ k ≤ 2 ∧ FinAt wr P D C0 C1 N A0 A1 B0 B1 n0 n1 c0 c1 d0 d1 x0 x1 y0 y1 ∧ ChgF [] W.heap.size W wr
theorem mod_small (k n : Int) (w : World) (hk : I64 k) (hn : 0 < n) (hn2 : n ≤ 1000000) (r : Int) (hr : k % n = r) : Calls Try.prog 5 #[i64 k, i64 n] w (Same (i64 r) w) := by
  subst hr; exact mod_any k n w hk.1 hk.2 hn hn2

set_option maxHeartbeats 16000000 in
set_option maxRecDepth 100000 in
theorem law_any (W : World) (A B L : Option Addr) (na nb nl ca cb cl : Nat) (xa xb : List HM) (ls : List Mail) (hA : Rd W 6 A na (xa.flatMap msgC)) (hB : Rd W 6 B nb (xb.flatMap msgC)) (hL : Rd W 3 L nl (ls.flatMap mailC))
    (ia : ∀ x ∈ xa, MsgIn W x.m x.s1 x.s2 x.s3) (ib : ∀ x ∈ xb, MsgIn W x.m x.s1 x.s2 x.s3) (la : xa.length = na) (lb : xb.length = nb) (ll : ls.length = nl) (hs : na + nb + nl ≤ 1048576)
    (hI : ∀ x ∈ ls, I64 x.kind ∧ I64 x.who ∧ I64 x.k) :
    Calls Try.prog 3 #[.slice A na ca, .slice B nb cb, .slice L nl cl] W fun e w' => e = .returned (.bool true) ∧ ChgF [] W.heap.size W w' := by
  have M1 := Lib.hid (met_any W)
  have HA := Lib.hid (And.intro hA (And.intro ia la))
  have HB := Lib.hid (And.intro hB (And.intro ib lb))
  have HL := Lib.hid (And.intro hL (And.intro hI ll))
  clear hA hB hL ia ib la lb ll hI
  go_enter Try.func3, Try.ntmps3
  go_wp2_with fail
  (with_reducible refine M1.out.mono ?_)
  rintro e w1 ⟨P, C0, rfl, hP1, hC1⟩
  have HP1 := Lib.hid (And.intro hP1 hC1)
  clear hP1 hC1 M1
  go_wp2_with fail
  obtain ⟨D, hD⟩ : ∃ D, w1.heap.size = D := ⟨_, rfl⟩
  simp only [hD]
  have HD := Lib.hid hD
  clear hD
  go_loopw [10, 11, 12, 13, 14] (fun i k n _ _ wr => LawO W P C0 D xa xb nl i k n wr) (fun _ _ n _ _ _ => nl + 1 - (intOf n).toNat)
  case atStart => exact ⟨0, 0, 0, _, _, _, _, _, rfl, rfl, rfl, Nat.zero_le _, law_start HP1.out.1 HP1.out.2 ((Chg.refl [] w1).alloc _) HD.out (blk_at HD.out) (by have := HA.out.2.2; omega) (by have := HB.out.2.2; omega)⟩
  case round =>
    obtain ⟨ni, nk, nn, p, g0, g1, y0, y1, rfl, rfl, rfl, hnn, hL⟩ := hrel
    have HLw := Lib.hid hL
    clear hL
    rcases Nat.lt_or_ge nn nl with hlt | hge
    · as_aux_lemma =>
        obtain ⟨x, hx⟩ : ∃ x, ls[nn]? = some x := ⟨_, List.getElem?_eq_getElem (by have := HL.out.2.2; omega : nn < ls.length)⟩
        have hxi := HL.out.2.1 x (List.mem_of_getElem? hx)
        obtain ⟨ad, rfl, _⟩ := rd_elem (size := 3) (enc := mailC) (fun _ => rfl) HL.out.1 HL.out.2.2 hx
        have HX : Hid (ls[nn]? = some x ∧ I64 x.kind ∧ I64 x.who ∧ I64 x.k) := ⟨hx, hxi⟩
        obtain ⟨kk, hkk⟩ : ∃ kk, x.kind % 6 = kk := ⟨_, rfl⟩
        obtain ⟨k3, hk3⟩ : ∃ k3, x.k % 3 = k3 := ⟨_, rfl⟩
        obtain ⟨kw, hkw⟩ : ∃ kw, x.who % 2 = kw := ⟨_, rfl⟩
        have hr : 0 ≤ kk ∧ kk < 6 := by omega
        have KW : Hid (x.who % 2 = kw ∧ (0 ≤ kw ∧ kw < 2)) := ⟨hkw, by omega⟩
        have M6 := Lib.hid (fun w => mod_small x.kind 6 w hxi.1 (by omega) (by omega) kk hkk)
        have M3 := Lib.hid (fun w => mod_small x.k 3 w hxi.2.2 (by omega) (by omega) k3 hk3)
        have MW := Lib.hid (fun w => mod_small x.who 2 w hxi.2.1 (by omega) (by omega) kw hkw)
        have HR := Lib.hid hr
        have a0 : (0 : Int) ≤ (nn : Int) := by omega
        have a1 : (nn : Int) < (nl : Int) := by omega
        have a2 : ((nn : Int) == (nl : Int)) = false := by simp; omega
        have a3 : (nn : Int) ≤ (nl : Int) := by omega
        clear hx hxi hkk hkw
        rcases Int.lt_or_le 1 kk with hk1 | hk1
        · rcases (by omega : k3 = 0 ∨ k3 ≠ 0) with h3 | h3
          · subst h3
            have hL := HLw.out
            obtain ⟨ad', hA', hel⟩ := rd_elem (size := 3) (enc := mailC) (fun _ => rfl) (HL.out.1.new_ hL.args) HL.out.2.2 HX.out.1
            obtain rfl : ad = ad' := by injection hA'
            have m0 : wr.cell? (ad.add (nn * 3)) = some (i64 x.kind) := by have := hel 0 _ rfl; simpa [Addr.add] using this
            have m1 : wr.cell? ⟨(ad.add (nn * 3)).block, (ad.add (nn * 3)).off + 1, none⟩ = some (i64 x.who) := hel 1 _ rfl
            have m2 : wr.cell? ⟨(ad.add (nn * 3)).block, (ad.add (nn * 3)).off + 2, none⟩ = some (i64 x.k) := hel 2 _ rfl
            clear hel hA'
            clear hL hk3 hr
            go_wp2_with (first
              | (go_at_call 5; (with_reducible refine (M6.out _).mono ?_); rintro e w3 ⟨rfl, rfl⟩)
              | (go_at_call 5; (with_reducible refine (M3.out _).mono ?_); rintro e w3 ⟨rfl, rfl⟩))
            clear m0 m1 m2
            go_loopw [10] (fun i wr => SayA W P C0 D xa xb nk g1 y1 i wr) (fun i _ => na - (intOf i).toNat)
            case atStart => exact ⟨ni, p, g0, y0, rfl, HLw.out⟩
            case round =>
              obtain ⟨ni, p, g0, y0, rfl, hL⟩ := hrel
              clear HLw
              have HLw := Lib.hid hL
              rcases Nat.lt_or_ge ni na with hi | hi
              · rcases Nat.lt_or_ge nn ni with hj | hj
                · have h6 : decide ((ni : Int) ≤ (nn : Int)) = false := by simp; omega
                  have h7 : decide (ni ≤ nn) = false := by simp; omega
                  have b1 : (ni : Int) < (na : Int) := by omega
                  clear hL
                  go_wp2_with fail
                  clear h6 h7 b1
                  go_loopw [11] (fun i wr => SayB W P C0 D xa xb ni g0 y0 i wr) (fun i _ => nb - (intOf i).toNat)
                  case atStart => exact ⟨nk, p, g1, y1, rfl, HLw.out⟩
                  case round =>
                    obtain ⟨nk, p, g1, y1, rfl, hL⟩ := hrel
                    clear HLw
                    have HLw := Lib.hid hL
                    rcases Nat.lt_or_ge nk nb with hi | hi
                    · rcases Nat.lt_or_ge nn nk with hj | hj
                      · have h6 : decide ((nk : Int) ≤ (nn : Int)) = false := by simp; omega
                        have h7 : decide (nk ≤ nn) = false := by simp; omega
                        have b1 : (nk : Int) < (nb : Int) := by omega
                        clear hL
                        have hr := HR.out
                        as_aux_lemma =>
                          have hL := HLw.out
                          obtain ⟨ad', hA', hel⟩ := rd_elem (size := 3) (enc := mailC) (fun _ => rfl) (HL.out.1.new_ hL.args) HL.out.2.2 HX.out.1
                          obtain rfl : ad = ad' := by injection hA'
                          have m0 : wr.cell? (ad.add (nn * 3)) = some (i64 x.kind) := by have := hel 0 _ rfl; simpa [Addr.add] using this
                          have m1 : wr.cell? ⟨(ad.add (nn * 3)).block, (ad.add (nn * 3)).off + 1, none⟩ = some (i64 x.who) := hel 1 _ rfl
                          have m2 : wr.cell? ⟨(ad.add (nn * 3)).block, (ad.add (nn * 3)).off + 2, none⟩ = some (i64 x.k) := hel 2 _ rfl
                          clear hel hA'
                          obtain ⟨N, d2, Ln, Tk, Db⟩ := law_net hL
                          have LN := Lib.hid Ln
                          clear Ln
                          obtain ⟨len, hlen⟩ : ∃ len, p.net.length = len := ⟨_, rfl⟩
                          rw [hlen] at LN Tk Db
                          rcases Nat.eq_zero_or_pos len with hz | hz
                          · have lk : decide (kk < 2) = false := by simp; omega
                            subst hz
                            clear Tk Db hL hlen
                            go_wp2_with (first
                              | (go_at_call 7; (with_reducible refine LN.out.mono ?_); rintro e w3 ⟨rfl, rfl⟩)
                              | (go_at_call 5; (with_reducible refine (M6.out _).mono ?_); rintro e w3 ⟨rfl, rfl⟩)
                              | (go_at_call 5; (with_reducible refine (M3.out _).mono ?_); rintro e w3 ⟨rfl, rfl⟩))
                            have HS := Lib.hid HLw.out
                            go_roundw
                            case rel => exact ⟨ni, nk, nn + 1, _, g0, g1, y0, y1, rfl, rfl, by go_num, by omega, HS.out⟩
                            case measure => simp [intOf] <;> omega
                          · have hroom := HLw.out.inv.inv.room
                            obtain ⟨j, hj⟩ : ∃ j : Nat, x.k % (len : Int) = (j : Int) := ⟨(x.k % (len : Int)).toNat, by have := Int.emod_nonneg x.k (by omega : (len : Int) ≠ 0); omega⟩
                            have hjl : j < len := by have := Int.emod_lt_of_pos x.k (by omega : (0 : Int) < (len : Int)); omega
                            have MJ := Lib.hid (fun w => mod_small x.k (len : Int) w HX.out.2.2.2 (by omega) (by omega) (j : Int) hj)
                            have z1 : ((len : Int) == 0) = false := by simp; omega
                            have lk : decide (kk < 2) = false := by simp; omega
                            rcases (by omega : kk < 4 ∨ kk = 4 ∨ kk = 5) with h | h | h
                            · have C2 := Lib.hid (law_comes hL j (by omega))
                              clear Tk Db hL hlen hj
                              go_wp2_with (first
                                | (go_at_call 7; (with_reducible refine LN.out.mono ?_); rintro e w3 ⟨rfl, rfl⟩)
                                | (go_at_call 5; (with_reducible refine (M6.out _).mono ?_); rintro e w3 ⟨rfl, rfl⟩)
                                | (go_at_call 5; (with_reducible refine (M3.out _).mono ?_); rintro e w3 ⟨rfl, rfl⟩)
                                | (go_at_call 5; (with_reducible refine (MJ.out _).mono ?_); rintro e w3 ⟨rfl, rfl⟩)
                                | (go_at_call 9; (with_reducible refine C2.out.mono ?_); rintro e w4 ⟨⟨u4, rfl⟩, hL4⟩))
                              have HS := Lib.hid hL4
                              clear hL4
                              go_roundw
                              case rel => exact ⟨ni, nk, nn + 1, _, g0, g1, y0, y1, rfl, rfl, by go_num, by omega, HS.out⟩
                              case measure => simp [intOf] <;> omega
                            · subst h
                              have MJS : Hid (∀ w, Calls Try.prog 5 #[i64 x.k, i64 (len : Int)] w fun e w' => e = .returned (i64 (j : Int)) ∧ w' = w) := fun w => (MJ.out w).mono fun e w' h => ⟨h.1, h.2.symm⟩
                              have T2 := Lib.hid ((law_net (HLw.out.new_ (Chg.refl [] wr).drew)))
                              clear Tk Db hL
                              go_wp2_with (first
                                | (go_at_call 7; (with_reducible refine LN.out.mono ?_); rintro e w3 ⟨rfl, rfl⟩)
                                | (go_at_call 5; (with_reducible refine (M6.out _).mono ?_); rintro e w3 ⟨rfl, rfl⟩)
                                | (go_at_call 5; (with_reducible refine (M3.out _).mono ?_); rintro e w3 ⟨rfl, rfl⟩))
                              refine wp_region_still_tail 11 (by kernel_rfl) (by kernel_rfl) ?_
                              simp only [List.take_succ_cons, List.take_zero, List.drop_succ_cons, List.drop_zero]
                              repeat (with_reducible refine wpStill_step ?_; intro K hK; go_simp; with_reducible refine hK _ ?_; clear hK K)
                              with_reducible refine wpStill_step ?_
                              intro K hK
                              go_simp
                              with_reducible refine ⟨_, MJS.out _, hK _ ?_⟩
                              clear hK K
                              with_reducible refine wpStill_nil ?_
                              change wpList _ _ _ _ _ wr.drew
                              obtain ⟨N2, dd2, _, Tk, Db⟩ := T2.out
                              obtain rfl : N = N2 := by
                                have h1 : wr.cell? ⟨P, 2, none⟩ = some (ptrV N2) := dd2
                                rw [d2] at h1; simpa using h1
                              have C2 := Lib.hid (Tk j (by omega))
                              clear Tk Db dd2 T2 d2 m0 m1 m2 HLw LN hlen hj
                              generalize wr.drew = w2 at C2 ⊢
                              go_wp2_with (go_at_call 10; (with_reducible refine C2.out.mono ?_); rintro e w4 ⟨p4, ⟨u4, rfl⟩, hL4⟩)
                              have HS := Lib.hid hL4
                              clear hL4
                              go_roundw
                              case rel => exact ⟨ni, nk, nn + 1, _, g0, g1, y0, y1, rfl, rfl, by go_num, by omega, HS.out⟩
                              case measure => simp [intOf] <;> omega
                            · subst h
                              have MJS : Hid (∀ w, Calls Try.prog 5 #[i64 x.k, i64 (len : Int)] w fun e w' => e = .returned (i64 (j : Int)) ∧ w' = w) := fun w => (MJ.out w).mono fun e w' h => ⟨h.1, h.2.symm⟩
                              have T2 := Lib.hid ((law_net (HLw.out.new_ (Chg.refl [] wr).drew)))
                              clear Tk Db hL
                              go_wp2_with (first
                                | (go_at_call 7; (with_reducible refine LN.out.mono ?_); rintro e w3 ⟨rfl, rfl⟩)
                                | (go_at_call 5; (with_reducible refine (M6.out _).mono ?_); rintro e w3 ⟨rfl, rfl⟩)
                                | (go_at_call 5; (with_reducible refine (M3.out _).mono ?_); rintro e w3 ⟨rfl, rfl⟩))
                              refine wp_region_still_tail 11 (by kernel_rfl) (by kernel_rfl) ?_
                              simp only [List.take_succ_cons, List.take_zero, List.drop_succ_cons, List.drop_zero]
                              repeat (with_reducible refine wpStill_step ?_; intro K hK; go_simp; with_reducible refine hK _ ?_; clear hK K)
                              with_reducible refine wpStill_step ?_
                              intro K hK
                              go_simp
                              with_reducible refine ⟨_, MJS.out _, hK _ ?_⟩
                              clear hK K
                              with_reducible refine wpStill_nil ?_
                              change wpList _ _ _ _ _ wr.drew
                              obtain ⟨N2, dd2, _, Tk, Db⟩ := T2.out
                              obtain rfl : N = N2 := by
                                have h1 : wr.cell? ⟨P, 2, none⟩ = some (ptrV N2) := dd2
                                rw [d2] at h1; simpa using h1
                              have C2 := Lib.hid (Db j (by omega))
                              clear Tk Db dd2 T2 d2 m0 m1 m2 HLw LN hlen hj
                              generalize wr.drew = w2 at C2 ⊢
                              go_wp2_with (go_at_call 11; (with_reducible refine C2.out.mono ?_); rintro e w4 ⟨p4, ⟨u4, rfl⟩, hL4⟩)
                              have HS := Lib.hid hL4
                              clear hL4
                              go_roundw
                              case rel => exact ⟨ni, nk, nn + 1, _, g0, g1, y0, y1, rfl, rfl, by go_num, by omega, HS.out⟩
                              case measure => simp [intOf] <;> omega
                      · have b2 : (nk : Int) ≤ (nn : Int) := by omega
                        obtain ⟨ad, rfl, hel⟩ := rd_elem (size := 6) (enc := msgC) (fun _ => rfl) (HB.out.1.new_ hL.args) HB.out.2.2 (List.getElem?_eq_getElem (by have := HB.out.2.2; omega : nk < xb.length))
                        have hxa := List.getElem?_eq_getElem (by have := HB.out.2.2; omega : nk < xb.length)
                        have hin := (HB.out.2.1 _ (List.getElem_mem (by have := HB.out.2.2; omega : nk < xb.length))).new_ hL.args
                        generalize xb[nk]'(by have := HB.out.2.2; omega) = y at hel hxa hin
                        have c0 : wr.cell? (ad.add (nk * 6)) = some (i64 y.m.kind) := by have := hel 0 _ rfl; simpa [Addr.add] using this
                        have c1 : wr.cell? ⟨(ad.add (nk * 6)).block, (ad.add (nk * 6)).off + 1, none⟩ = some (i64 y.m.t) := hel 1 _ rfl
                        have c2 : wr.cell? ⟨(ad.add (nk * 6)).block, (ad.add (nk * 6)).off + 2, none⟩ = some (i64 y.m.n) := hel 2 _ rfl
                        have c3 : wr.cell? ⟨(ad.add (nk * 6)).block, (ad.add (nk * 6)).off + 3, none⟩ = some (.slice y.s1.1 y.m.cmds.length y.s1.2) := hel 3 _ rfl
                        have c4 : wr.cell? ⟨(ad.add (nk * 6)).block, (ad.add (nk * 6)).off + 4, none⟩ = some (.slice y.s2.1 y.m.buns.length y.s2.2) := hel 4 _ rfl
                        have c5 : wr.cell? ⟨(ad.add (nk * 6)).block, (ad.add (nk * 6)).off + 5, none⟩ = some (.slice y.s3.1 y.m.ids.length y.s3.2) := hel 5 _ rfl
                        have d0 : wr.cell? ⟨D, 1, none⟩ = some g1 := hL.at_.blk.cell 1
                        have S1 := Lib.hid (law_says1 (hL.new_ (Chg.refl [] wr).drew) hxa (hin.new_ (Chg.refl [] wr).drew))
                        have b0 : (0 : Int) ≤ (nk : Int) := by omega
                        have b1 : (nk : Int) < (nb : Int) := by omega
                        clear hel hxa hin hL
                        go_wp2_with fail
                        refine wp_region_still_tail 7 (by kernel_rfl) (by kernel_rfl) ?_
                        simp only [List.take_succ_cons, List.take_zero, List.drop_succ_cons, List.drop_zero]
                        repeat (with_reducible refine wpStill_step ?_; intro K hK; go_simp; with_reducible refine hK _ ?_; clear hK K)
                        with_reducible refine wpStill_nil ?_
                        change wpList _ _ _ _ _ wr.drew
                        clear c0 c1 c2 c3 c4 c5 d0
                        generalize wr.drew = w2 at S1 ⊢
                        go_wp2_with fail
                        (with_reducible refine S1.out.mono ?_)
                        rintro e w3 ⟨A', n', c', p', y', rfl, hB3, hL3⟩
                        have q3 : w3.cell? ⟨D, 1, none⟩ = some g1 := hB3.cell 1
                        have f3 := hB3.frozen 1
                        have HL3 := Lib.hid hL3
                        clear hB3 hL3 S1
                        go_wp2_with fail
                        go_roundw
                        case rel => exact ⟨nk + 1, p', _, y', by go_num, HL3.out⟩
                        case measure => simp [intOf]; omega
                    · clear hL
                      have hr := HR.out
                      as_aux_lemma =>
                        have hL := HLw.out
                        obtain ⟨ad', hA', hel⟩ := rd_elem (size := 3) (enc := mailC) (fun _ => rfl) (HL.out.1.new_ hL.args) HL.out.2.2 HX.out.1
                        obtain rfl : ad = ad' := by injection hA'
                        have m0 : wr.cell? (ad.add (nn * 3)) = some (i64 x.kind) := by have := hel 0 _ rfl; simpa [Addr.add] using this
                        have m1 : wr.cell? ⟨(ad.add (nn * 3)).block, (ad.add (nn * 3)).off + 1, none⟩ = some (i64 x.who) := hel 1 _ rfl
                        have m2 : wr.cell? ⟨(ad.add (nn * 3)).block, (ad.add (nn * 3)).off + 2, none⟩ = some (i64 x.k) := hel 2 _ rfl
                        clear hel hA'
                        obtain ⟨N, d2, Ln, Tk, Db⟩ := law_net hL
                        have LN := Lib.hid Ln
                        clear Ln
                        obtain ⟨len, hlen⟩ : ∃ len, p.net.length = len := ⟨_, rfl⟩
                        rw [hlen] at LN Tk Db
                        rcases Nat.eq_zero_or_pos len with hz | hz
                        · have lk : decide (kk < 2) = false := by simp; omega
                          subst hz
                          clear Tk Db hL hlen
                          go_wp2_with (first
                            | (go_at_call 7; (with_reducible refine LN.out.mono ?_); rintro e w3 ⟨rfl, rfl⟩)
                            | (go_at_call 5; (with_reducible refine (M6.out _).mono ?_); rintro e w3 ⟨rfl, rfl⟩)
                            | (go_at_call 5; (with_reducible refine (M3.out _).mono ?_); rintro e w3 ⟨rfl, rfl⟩))
                          have HS := Lib.hid HLw.out
                          go_roundw
                          case rel => exact ⟨ni, nk, nn + 1, _, g0, g1, y0, y1, rfl, rfl, by go_num, by omega, HS.out⟩
                          case measure => simp [intOf] <;> omega
                        · have hroom := HLw.out.inv.inv.room
                          obtain ⟨j, hj⟩ : ∃ j : Nat, x.k % (len : Int) = (j : Int) := ⟨(x.k % (len : Int)).toNat, by have := Int.emod_nonneg x.k (by omega : (len : Int) ≠ 0); omega⟩
                          have hjl : j < len := by have := Int.emod_lt_of_pos x.k (by omega : (0 : Int) < (len : Int)); omega
                          have MJ := Lib.hid (fun w => mod_small x.k (len : Int) w HX.out.2.2.2 (by omega) (by omega) (j : Int) hj)
                          have z1 : ((len : Int) == 0) = false := by simp; omega
                          have lk : decide (kk < 2) = false := by simp; omega
                          rcases (by omega : kk < 4 ∨ kk = 4 ∨ kk = 5) with h | h | h
                          · have C2 := Lib.hid (law_comes hL j (by omega))
                            clear Tk Db hL hlen hj
                            go_wp2_with (first
                              | (go_at_call 7; (with_reducible refine LN.out.mono ?_); rintro e w3 ⟨rfl, rfl⟩)
                              | (go_at_call 5; (with_reducible refine (M6.out _).mono ?_); rintro e w3 ⟨rfl, rfl⟩)
                              | (go_at_call 5; (with_reducible refine (M3.out _).mono ?_); rintro e w3 ⟨rfl, rfl⟩)
                              | (go_at_call 5; (with_reducible refine (MJ.out _).mono ?_); rintro e w3 ⟨rfl, rfl⟩)
                              | (go_at_call 9; (with_reducible refine C2.out.mono ?_); rintro e w4 ⟨⟨u4, rfl⟩, hL4⟩))
                            have HS := Lib.hid hL4
                            clear hL4
                            go_roundw
                            case rel => exact ⟨ni, nk, nn + 1, _, g0, g1, y0, y1, rfl, rfl, by go_num, by omega, HS.out⟩
                            case measure => simp [intOf] <;> omega
                          · subst h
                            have MJS : Hid (∀ w, Calls Try.prog 5 #[i64 x.k, i64 (len : Int)] w fun e w' => e = .returned (i64 (j : Int)) ∧ w' = w) := fun w => (MJ.out w).mono fun e w' h => ⟨h.1, h.2.symm⟩
                            have T2 := Lib.hid ((law_net (HLw.out.new_ (Chg.refl [] wr).drew)))
                            clear Tk Db hL
                            go_wp2_with (first
                              | (go_at_call 7; (with_reducible refine LN.out.mono ?_); rintro e w3 ⟨rfl, rfl⟩)
                              | (go_at_call 5; (with_reducible refine (M6.out _).mono ?_); rintro e w3 ⟨rfl, rfl⟩)
                              | (go_at_call 5; (with_reducible refine (M3.out _).mono ?_); rintro e w3 ⟨rfl, rfl⟩))
                            refine wp_region_still_tail 11 (by kernel_rfl) (by kernel_rfl) ?_
                            simp only [List.take_succ_cons, List.take_zero, List.drop_succ_cons, List.drop_zero]
                            repeat (with_reducible refine wpStill_step ?_; intro K hK; go_simp; with_reducible refine hK _ ?_; clear hK K)
                            with_reducible refine wpStill_step ?_
                            intro K hK
                            go_simp
                            with_reducible refine ⟨_, MJS.out _, hK _ ?_⟩
                            clear hK K
                            with_reducible refine wpStill_nil ?_
                            change wpList _ _ _ _ _ wr.drew
                            obtain ⟨N2, dd2, _, Tk, Db⟩ := T2.out
                            obtain rfl : N = N2 := by
                              have h1 : wr.cell? ⟨P, 2, none⟩ = some (ptrV N2) := dd2
                              rw [d2] at h1; simpa using h1
                            have C2 := Lib.hid (Tk j (by omega))
                            clear Tk Db dd2 T2 d2 m0 m1 m2 HLw LN hlen hj
                            generalize wr.drew = w2 at C2 ⊢
                            go_wp2_with (go_at_call 10; (with_reducible refine C2.out.mono ?_); rintro e w4 ⟨p4, ⟨u4, rfl⟩, hL4⟩)
                            have HS := Lib.hid hL4
                            clear hL4
                            go_roundw
                            case rel => exact ⟨ni, nk, nn + 1, _, g0, g1, y0, y1, rfl, rfl, by go_num, by omega, HS.out⟩
                            case measure => simp [intOf] <;> omega
                          · subst h
                            have MJS : Hid (∀ w, Calls Try.prog 5 #[i64 x.k, i64 (len : Int)] w fun e w' => e = .returned (i64 (j : Int)) ∧ w' = w) := fun w => (MJ.out w).mono fun e w' h => ⟨h.1, h.2.symm⟩
                            have T2 := Lib.hid ((law_net (HLw.out.new_ (Chg.refl [] wr).drew)))
                            clear Tk Db hL
                            go_wp2_with (first
                              | (go_at_call 7; (with_reducible refine LN.out.mono ?_); rintro e w3 ⟨rfl, rfl⟩)
                              | (go_at_call 5; (with_reducible refine (M6.out _).mono ?_); rintro e w3 ⟨rfl, rfl⟩)
                              | (go_at_call 5; (with_reducible refine (M3.out _).mono ?_); rintro e w3 ⟨rfl, rfl⟩))
                            refine wp_region_still_tail 11 (by kernel_rfl) (by kernel_rfl) ?_
                            simp only [List.take_succ_cons, List.take_zero, List.drop_succ_cons, List.drop_zero]
                            repeat (with_reducible refine wpStill_step ?_; intro K hK; go_simp; with_reducible refine hK _ ?_; clear hK K)
                            with_reducible refine wpStill_step ?_
                            intro K hK
                            go_simp
                            with_reducible refine ⟨_, MJS.out _, hK _ ?_⟩
                            clear hK K
                            with_reducible refine wpStill_nil ?_
                            change wpList _ _ _ _ _ wr.drew
                            obtain ⟨N2, dd2, _, Tk, Db⟩ := T2.out
                            obtain rfl : N = N2 := by
                              have h1 : wr.cell? ⟨P, 2, none⟩ = some (ptrV N2) := dd2
                              rw [d2] at h1; simpa using h1
                            have C2 := Lib.hid (Db j (by omega))
                            clear Tk Db dd2 T2 d2 m0 m1 m2 HLw LN hlen hj
                            generalize wr.drew = w2 at C2 ⊢
                            go_wp2_with (go_at_call 11; (with_reducible refine C2.out.mono ?_); rintro e w4 ⟨p4, ⟨u4, rfl⟩, hL4⟩)
                            have HS := Lib.hid hL4
                            clear hL4
                            go_roundw
                            case rel => exact ⟨ni, nk, nn + 1, _, g0, g1, y0, y1, rfl, rfl, by go_num, by omega, HS.out⟩
                            case measure => simp [intOf] <;> omega
                · have b2 : (ni : Int) ≤ (nn : Int) := by omega
                  obtain ⟨ad, rfl, hel⟩ := rd_elem (size := 6) (enc := msgC) (fun _ => rfl) (HA.out.1.new_ hL.args) HA.out.2.2 (List.getElem?_eq_getElem (by have := HA.out.2.2; omega : ni < xa.length))
                  have hxa := List.getElem?_eq_getElem (by have := HA.out.2.2; omega : ni < xa.length)
                  have hin := (HA.out.2.1 _ (List.getElem_mem (by have := HA.out.2.2; omega : ni < xa.length))).new_ hL.args
                  generalize xa[ni]'(by have := HA.out.2.2; omega) = y at hel hxa hin
                  have c0 : wr.cell? (ad.add (ni * 6)) = some (i64 y.m.kind) := by have := hel 0 _ rfl; simpa [Addr.add] using this
                  have c1 : wr.cell? ⟨(ad.add (ni * 6)).block, (ad.add (ni * 6)).off + 1, none⟩ = some (i64 y.m.t) := hel 1 _ rfl
                  have c2 : wr.cell? ⟨(ad.add (ni * 6)).block, (ad.add (ni * 6)).off + 2, none⟩ = some (i64 y.m.n) := hel 2 _ rfl
                  have c3 : wr.cell? ⟨(ad.add (ni * 6)).block, (ad.add (ni * 6)).off + 3, none⟩ = some (.slice y.s1.1 y.m.cmds.length y.s1.2) := hel 3 _ rfl
                  have c4 : wr.cell? ⟨(ad.add (ni * 6)).block, (ad.add (ni * 6)).off + 4, none⟩ = some (.slice y.s2.1 y.m.buns.length y.s2.2) := hel 4 _ rfl
                  have c5 : wr.cell? ⟨(ad.add (ni * 6)).block, (ad.add (ni * 6)).off + 5, none⟩ = some (.slice y.s3.1 y.m.ids.length y.s3.2) := hel 5 _ rfl
                  have d0 : wr.cell? ⟨D, 0, none⟩ = some g0 := hL.at_.blk.cell 0
                  have S1 := Lib.hid (law_says0 (hL.new_ (Chg.refl [] wr).drew) hxa (hin.new_ (Chg.refl [] wr).drew))
                  have b0 : (0 : Int) ≤ (ni : Int) := by omega
                  have b1 : (ni : Int) < (na : Int) := by omega
                  clear hel hxa hin hL
                  go_wp2_with fail
                  refine wp_region_still_tail 7 (by kernel_rfl) (by kernel_rfl) ?_
                  simp only [List.take_succ_cons, List.take_zero, List.drop_succ_cons, List.drop_zero]
                  repeat (with_reducible refine wpStill_step ?_; intro K hK; go_simp; with_reducible refine hK _ ?_; clear hK K)
                  with_reducible refine wpStill_nil ?_
                  change wpList _ _ _ _ _ wr.drew
                  clear c0 c1 c2 c3 c4 c5 d0
                  generalize wr.drew = w2 at S1 ⊢
                  go_wp2_with fail
                  (with_reducible refine S1.out.mono ?_)
                  rintro e w3 ⟨A', n', c', p', y', rfl, hB3, hL3⟩
                  have q3 : w3.cell? ⟨D, 0, none⟩ = some g0 := hB3.cell 0
                  have f3 := hB3.frozen 0
                  have HL3 := Lib.hid hL3
                  clear hB3 hL3 S1
                  go_wp2_with fail
                  go_roundw
                  case rel => exact ⟨ni + 1, p', _, y', by go_num, HL3.out⟩
                  case measure => simp [intOf]; omega
              · clear hL
                go_wp2_with fail
                go_loopw [11] (fun i wr => SayB W P C0 D xa xb ni g0 y0 i wr) (fun i _ => nb - (intOf i).toNat)
                case atStart => exact ⟨nk, p, g1, y1, rfl, HLw.out⟩
                case round =>
                  obtain ⟨nk, p, g1, y1, rfl, hL⟩ := hrel
                  clear HLw
                  have HLw := Lib.hid hL
                  rcases Nat.lt_or_ge nk nb with hi | hi
                  · rcases Nat.lt_or_ge nn nk with hj | hj
                    · have h6 : decide ((nk : Int) ≤ (nn : Int)) = false := by simp; omega
                      have h7 : decide (nk ≤ nn) = false := by simp; omega
                      have b1 : (nk : Int) < (nb : Int) := by omega
                      clear hL
                      have hr := HR.out
                      as_aux_lemma =>
                        have hL := HLw.out
                        obtain ⟨ad', hA', hel⟩ := rd_elem (size := 3) (enc := mailC) (fun _ => rfl) (HL.out.1.new_ hL.args) HL.out.2.2 HX.out.1
                        obtain rfl : ad = ad' := by injection hA'
                        have m0 : wr.cell? (ad.add (nn * 3)) = some (i64 x.kind) := by have := hel 0 _ rfl; simpa [Addr.add] using this
                        have m1 : wr.cell? ⟨(ad.add (nn * 3)).block, (ad.add (nn * 3)).off + 1, none⟩ = some (i64 x.who) := hel 1 _ rfl
                        have m2 : wr.cell? ⟨(ad.add (nn * 3)).block, (ad.add (nn * 3)).off + 2, none⟩ = some (i64 x.k) := hel 2 _ rfl
                        clear hel hA'
                        obtain ⟨N, d2, Ln, Tk, Db⟩ := law_net hL
                        have LN := Lib.hid Ln
                        clear Ln
                        obtain ⟨len, hlen⟩ : ∃ len, p.net.length = len := ⟨_, rfl⟩
                        rw [hlen] at LN Tk Db
                        rcases Nat.eq_zero_or_pos len with hz | hz
                        · have lk : decide (kk < 2) = false := by simp; omega
                          subst hz
                          clear Tk Db hL hlen
                          go_wp2_with (first
                            | (go_at_call 7; (with_reducible refine LN.out.mono ?_); rintro e w3 ⟨rfl, rfl⟩)
                            | (go_at_call 5; (with_reducible refine (M6.out _).mono ?_); rintro e w3 ⟨rfl, rfl⟩)
                            | (go_at_call 5; (with_reducible refine (M3.out _).mono ?_); rintro e w3 ⟨rfl, rfl⟩))
                          have HS := Lib.hid HLw.out
                          go_roundw
                          case rel => exact ⟨ni, nk, nn + 1, _, g0, g1, y0, y1, rfl, rfl, by go_num, by omega, HS.out⟩
                          case measure => simp [intOf] <;> omega
                        · have hroom := HLw.out.inv.inv.room
                          obtain ⟨j, hj⟩ : ∃ j : Nat, x.k % (len : Int) = (j : Int) := ⟨(x.k % (len : Int)).toNat, by have := Int.emod_nonneg x.k (by omega : (len : Int) ≠ 0); omega⟩
                          have hjl : j < len := by have := Int.emod_lt_of_pos x.k (by omega : (0 : Int) < (len : Int)); omega
                          have MJ := Lib.hid (fun w => mod_small x.k (len : Int) w HX.out.2.2.2 (by omega) (by omega) (j : Int) hj)
                          have z1 : ((len : Int) == 0) = false := by simp; omega
                          have lk : decide (kk < 2) = false := by simp; omega
                          rcases (by omega : kk < 4 ∨ kk = 4 ∨ kk = 5) with h | h | h
                          · have C2 := Lib.hid (law_comes hL j (by omega))
                            clear Tk Db hL hlen hj
                            go_wp2_with (first
                              | (go_at_call 7; (with_reducible refine LN.out.mono ?_); rintro e w3 ⟨rfl, rfl⟩)
                              | (go_at_call 5; (with_reducible refine (M6.out _).mono ?_); rintro e w3 ⟨rfl, rfl⟩)
                              | (go_at_call 5; (with_reducible refine (M3.out _).mono ?_); rintro e w3 ⟨rfl, rfl⟩)
                              | (go_at_call 5; (with_reducible refine (MJ.out _).mono ?_); rintro e w3 ⟨rfl, rfl⟩)
                              | (go_at_call 9; (with_reducible refine C2.out.mono ?_); rintro e w4 ⟨⟨u4, rfl⟩, hL4⟩))
                            have HS := Lib.hid hL4
                            clear hL4
                            go_roundw
                            case rel => exact ⟨ni, nk, nn + 1, _, g0, g1, y0, y1, rfl, rfl, by go_num, by omega, HS.out⟩
                            case measure => simp [intOf] <;> omega
                          · subst h
                            have MJS : Hid (∀ w, Calls Try.prog 5 #[i64 x.k, i64 (len : Int)] w fun e w' => e = .returned (i64 (j : Int)) ∧ w' = w) := fun w => (MJ.out w).mono fun e w' h => ⟨h.1, h.2.symm⟩
                            have T2 := Lib.hid ((law_net (HLw.out.new_ (Chg.refl [] wr).drew)))
                            clear Tk Db hL
                            go_wp2_with (first
                              | (go_at_call 7; (with_reducible refine LN.out.mono ?_); rintro e w3 ⟨rfl, rfl⟩)
                              | (go_at_call 5; (with_reducible refine (M6.out _).mono ?_); rintro e w3 ⟨rfl, rfl⟩)
                              | (go_at_call 5; (with_reducible refine (M3.out _).mono ?_); rintro e w3 ⟨rfl, rfl⟩))
                            refine wp_region_still_tail 11 (by kernel_rfl) (by kernel_rfl) ?_
                            simp only [List.take_succ_cons, List.take_zero, List.drop_succ_cons, List.drop_zero]
                            repeat (with_reducible refine wpStill_step ?_; intro K hK; go_simp; with_reducible refine hK _ ?_; clear hK K)
                            with_reducible refine wpStill_step ?_
                            intro K hK
                            go_simp
                            with_reducible refine ⟨_, MJS.out _, hK _ ?_⟩
                            clear hK K
                            with_reducible refine wpStill_nil ?_
                            change wpList _ _ _ _ _ wr.drew
                            obtain ⟨N2, dd2, _, Tk, Db⟩ := T2.out
                            obtain rfl : N = N2 := by
                              have h1 : wr.cell? ⟨P, 2, none⟩ = some (ptrV N2) := dd2
                              rw [d2] at h1; simpa using h1
                            have C2 := Lib.hid (Tk j (by omega))
                            clear Tk Db dd2 T2 d2 m0 m1 m2 HLw LN hlen hj
                            generalize wr.drew = w2 at C2 ⊢
                            go_wp2_with (go_at_call 10; (with_reducible refine C2.out.mono ?_); rintro e w4 ⟨p4, ⟨u4, rfl⟩, hL4⟩)
                            have HS := Lib.hid hL4
                            clear hL4
                            go_roundw
                            case rel => exact ⟨ni, nk, nn + 1, _, g0, g1, y0, y1, rfl, rfl, by go_num, by omega, HS.out⟩
                            case measure => simp [intOf] <;> omega
                          · subst h
                            have MJS : Hid (∀ w, Calls Try.prog 5 #[i64 x.k, i64 (len : Int)] w fun e w' => e = .returned (i64 (j : Int)) ∧ w' = w) := fun w => (MJ.out w).mono fun e w' h => ⟨h.1, h.2.symm⟩
                            have T2 := Lib.hid ((law_net (HLw.out.new_ (Chg.refl [] wr).drew)))
                            clear Tk Db hL
                            go_wp2_with (first
                              | (go_at_call 7; (with_reducible refine LN.out.mono ?_); rintro e w3 ⟨rfl, rfl⟩)
                              | (go_at_call 5; (with_reducible refine (M6.out _).mono ?_); rintro e w3 ⟨rfl, rfl⟩)
                              | (go_at_call 5; (with_reducible refine (M3.out _).mono ?_); rintro e w3 ⟨rfl, rfl⟩))
                            refine wp_region_still_tail 11 (by kernel_rfl) (by kernel_rfl) ?_
                            simp only [List.take_succ_cons, List.take_zero, List.drop_succ_cons, List.drop_zero]
                            repeat (with_reducible refine wpStill_step ?_; intro K hK; go_simp; with_reducible refine hK _ ?_; clear hK K)
                            with_reducible refine wpStill_step ?_
                            intro K hK
                            go_simp
                            with_reducible refine ⟨_, MJS.out _, hK _ ?_⟩
                            clear hK K
                            with_reducible refine wpStill_nil ?_
                            change wpList _ _ _ _ _ wr.drew
                            obtain ⟨N2, dd2, _, Tk, Db⟩ := T2.out
                            obtain rfl : N = N2 := by
                              have h1 : wr.cell? ⟨P, 2, none⟩ = some (ptrV N2) := dd2
                              rw [d2] at h1; simpa using h1
                            have C2 := Lib.hid (Db j (by omega))
                            clear Tk Db dd2 T2 d2 m0 m1 m2 HLw LN hlen hj
                            generalize wr.drew = w2 at C2 ⊢
                            go_wp2_with (go_at_call 11; (with_reducible refine C2.out.mono ?_); rintro e w4 ⟨p4, ⟨u4, rfl⟩, hL4⟩)
                            have HS := Lib.hid hL4
                            clear hL4
                            go_roundw
                            case rel => exact ⟨ni, nk, nn + 1, _, g0, g1, y0, y1, rfl, rfl, by go_num, by omega, HS.out⟩
                            case measure => simp [intOf] <;> omega
                    · have b2 : (nk : Int) ≤ (nn : Int) := by omega
                      obtain ⟨ad, rfl, hel⟩ := rd_elem (size := 6) (enc := msgC) (fun _ => rfl) (HB.out.1.new_ hL.args) HB.out.2.2 (List.getElem?_eq_getElem (by have := HB.out.2.2; omega : nk < xb.length))
                      have hxa := List.getElem?_eq_getElem (by have := HB.out.2.2; omega : nk < xb.length)
                      have hin := (HB.out.2.1 _ (List.getElem_mem (by have := HB.out.2.2; omega : nk < xb.length))).new_ hL.args
                      generalize xb[nk]'(by have := HB.out.2.2; omega) = y at hel hxa hin
                      have c0 : wr.cell? (ad.add (nk * 6)) = some (i64 y.m.kind) := by have := hel 0 _ rfl; simpa [Addr.add] using this
                      have c1 : wr.cell? ⟨(ad.add (nk * 6)).block, (ad.add (nk * 6)).off + 1, none⟩ = some (i64 y.m.t) := hel 1 _ rfl
                      have c2 : wr.cell? ⟨(ad.add (nk * 6)).block, (ad.add (nk * 6)).off + 2, none⟩ = some (i64 y.m.n) := hel 2 _ rfl
                      have c3 : wr.cell? ⟨(ad.add (nk * 6)).block, (ad.add (nk * 6)).off + 3, none⟩ = some (.slice y.s1.1 y.m.cmds.length y.s1.2) := hel 3 _ rfl
                      have c4 : wr.cell? ⟨(ad.add (nk * 6)).block, (ad.add (nk * 6)).off + 4, none⟩ = some (.slice y.s2.1 y.m.buns.length y.s2.2) := hel 4 _ rfl
                      have c5 : wr.cell? ⟨(ad.add (nk * 6)).block, (ad.add (nk * 6)).off + 5, none⟩ = some (.slice y.s3.1 y.m.ids.length y.s3.2) := hel 5 _ rfl
                      have d0 : wr.cell? ⟨D, 1, none⟩ = some g1 := hL.at_.blk.cell 1
                      have S1 := Lib.hid (law_says1 (hL.new_ (Chg.refl [] wr).drew) hxa (hin.new_ (Chg.refl [] wr).drew))
                      have b0 : (0 : Int) ≤ (nk : Int) := by omega
                      have b1 : (nk : Int) < (nb : Int) := by omega
                      clear hel hxa hin hL
                      go_wp2_with fail
                      refine wp_region_still_tail 7 (by kernel_rfl) (by kernel_rfl) ?_
                      simp only [List.take_succ_cons, List.take_zero, List.drop_succ_cons, List.drop_zero]
                      repeat (with_reducible refine wpStill_step ?_; intro K hK; go_simp; with_reducible refine hK _ ?_; clear hK K)
                      with_reducible refine wpStill_nil ?_
                      change wpList _ _ _ _ _ wr.drew
                      clear c0 c1 c2 c3 c4 c5 d0
                      generalize wr.drew = w2 at S1 ⊢
                      go_wp2_with fail
                      (with_reducible refine S1.out.mono ?_)
                      rintro e w3 ⟨A', n', c', p', y', rfl, hB3, hL3⟩
                      have q3 : w3.cell? ⟨D, 1, none⟩ = some g1 := hB3.cell 1
                      have f3 := hB3.frozen 1
                      have HL3 := Lib.hid hL3
                      clear hB3 hL3 S1
                      go_wp2_with fail
                      go_roundw
                      case rel => exact ⟨nk + 1, p', _, y', by go_num, HL3.out⟩
                      case measure => simp [intOf]; omega
                  · clear hL
                    have hr := HR.out
                    as_aux_lemma =>
                      have hL := HLw.out
                      obtain ⟨ad', hA', hel⟩ := rd_elem (size := 3) (enc := mailC) (fun _ => rfl) (HL.out.1.new_ hL.args) HL.out.2.2 HX.out.1
                      obtain rfl : ad = ad' := by injection hA'
                      have m0 : wr.cell? (ad.add (nn * 3)) = some (i64 x.kind) := by have := hel 0 _ rfl; simpa [Addr.add] using this
                      have m1 : wr.cell? ⟨(ad.add (nn * 3)).block, (ad.add (nn * 3)).off + 1, none⟩ = some (i64 x.who) := hel 1 _ rfl
                      have m2 : wr.cell? ⟨(ad.add (nn * 3)).block, (ad.add (nn * 3)).off + 2, none⟩ = some (i64 x.k) := hel 2 _ rfl
                      clear hel hA'
                      obtain ⟨N, d2, Ln, Tk, Db⟩ := law_net hL
                      have LN := Lib.hid Ln
                      clear Ln
                      obtain ⟨len, hlen⟩ : ∃ len, p.net.length = len := ⟨_, rfl⟩
                      rw [hlen] at LN Tk Db
                      rcases Nat.eq_zero_or_pos len with hz | hz
                      · have lk : decide (kk < 2) = false := by simp; omega
                        subst hz
                        clear Tk Db hL hlen
                        go_wp2_with (first
                          | (go_at_call 7; (with_reducible refine LN.out.mono ?_); rintro e w3 ⟨rfl, rfl⟩)
                          | (go_at_call 5; (with_reducible refine (M6.out _).mono ?_); rintro e w3 ⟨rfl, rfl⟩)
                          | (go_at_call 5; (with_reducible refine (M3.out _).mono ?_); rintro e w3 ⟨rfl, rfl⟩))
                        have HS := Lib.hid HLw.out
                        go_roundw
                        case rel => exact ⟨ni, nk, nn + 1, _, g0, g1, y0, y1, rfl, rfl, by go_num, by omega, HS.out⟩
                        case measure => simp [intOf] <;> omega
                      · have hroom := HLw.out.inv.inv.room
                        obtain ⟨j, hj⟩ : ∃ j : Nat, x.k % (len : Int) = (j : Int) := ⟨(x.k % (len : Int)).toNat, by have := Int.emod_nonneg x.k (by omega : (len : Int) ≠ 0); omega⟩
                        have hjl : j < len := by have := Int.emod_lt_of_pos x.k (by omega : (0 : Int) < (len : Int)); omega
                        have MJ := Lib.hid (fun w => mod_small x.k (len : Int) w HX.out.2.2.2 (by omega) (by omega) (j : Int) hj)
                        have z1 : ((len : Int) == 0) = false := by simp; omega
                        have lk : decide (kk < 2) = false := by simp; omega
                        rcases (by omega : kk < 4 ∨ kk = 4 ∨ kk = 5) with h | h | h
                        · have C2 := Lib.hid (law_comes hL j (by omega))
                          clear Tk Db hL hlen hj
                          go_wp2_with (first
                            | (go_at_call 7; (with_reducible refine LN.out.mono ?_); rintro e w3 ⟨rfl, rfl⟩)
                            | (go_at_call 5; (with_reducible refine (M6.out _).mono ?_); rintro e w3 ⟨rfl, rfl⟩)
                            | (go_at_call 5; (with_reducible refine (M3.out _).mono ?_); rintro e w3 ⟨rfl, rfl⟩)
                            | (go_at_call 5; (with_reducible refine (MJ.out _).mono ?_); rintro e w3 ⟨rfl, rfl⟩)
                            | (go_at_call 9; (with_reducible refine C2.out.mono ?_); rintro e w4 ⟨⟨u4, rfl⟩, hL4⟩))
                          have HS := Lib.hid hL4
                          clear hL4
                          go_roundw
                          case rel => exact ⟨ni, nk, nn + 1, _, g0, g1, y0, y1, rfl, rfl, by go_num, by omega, HS.out⟩
                          case measure => simp [intOf] <;> omega
                        · subst h
                          have MJS : Hid (∀ w, Calls Try.prog 5 #[i64 x.k, i64 (len : Int)] w fun e w' => e = .returned (i64 (j : Int)) ∧ w' = w) := fun w => (MJ.out w).mono fun e w' h => ⟨h.1, h.2.symm⟩
                          have T2 := Lib.hid ((law_net (HLw.out.new_ (Chg.refl [] wr).drew)))
                          clear Tk Db hL
                          go_wp2_with (first
                            | (go_at_call 7; (with_reducible refine LN.out.mono ?_); rintro e w3 ⟨rfl, rfl⟩)
                            | (go_at_call 5; (with_reducible refine (M6.out _).mono ?_); rintro e w3 ⟨rfl, rfl⟩)
                            | (go_at_call 5; (with_reducible refine (M3.out _).mono ?_); rintro e w3 ⟨rfl, rfl⟩))
                          refine wp_region_still_tail 11 (by kernel_rfl) (by kernel_rfl) ?_
                          simp only [List.take_succ_cons, List.take_zero, List.drop_succ_cons, List.drop_zero]
                          repeat (with_reducible refine wpStill_step ?_; intro K hK; go_simp; with_reducible refine hK _ ?_; clear hK K)
                          with_reducible refine wpStill_step ?_
                          intro K hK
                          go_simp
                          with_reducible refine ⟨_, MJS.out _, hK _ ?_⟩
                          clear hK K
                          with_reducible refine wpStill_nil ?_
                          change wpList _ _ _ _ _ wr.drew
                          obtain ⟨N2, dd2, _, Tk, Db⟩ := T2.out
                          obtain rfl : N = N2 := by
                            have h1 : wr.cell? ⟨P, 2, none⟩ = some (ptrV N2) := dd2
                            rw [d2] at h1; simpa using h1
                          have C2 := Lib.hid (Tk j (by omega))
                          clear Tk Db dd2 T2 d2 m0 m1 m2 HLw LN hlen hj
                          generalize wr.drew = w2 at C2 ⊢
                          go_wp2_with (go_at_call 10; (with_reducible refine C2.out.mono ?_); rintro e w4 ⟨p4, ⟨u4, rfl⟩, hL4⟩)
                          have HS := Lib.hid hL4
                          clear hL4
                          go_roundw
                          case rel => exact ⟨ni, nk, nn + 1, _, g0, g1, y0, y1, rfl, rfl, by go_num, by omega, HS.out⟩
                          case measure => simp [intOf] <;> omega
                        · subst h
                          have MJS : Hid (∀ w, Calls Try.prog 5 #[i64 x.k, i64 (len : Int)] w fun e w' => e = .returned (i64 (j : Int)) ∧ w' = w) := fun w => (MJ.out w).mono fun e w' h => ⟨h.1, h.2.symm⟩
                          have T2 := Lib.hid ((law_net (HLw.out.new_ (Chg.refl [] wr).drew)))
                          clear Tk Db hL
                          go_wp2_with (first
                            | (go_at_call 7; (with_reducible refine LN.out.mono ?_); rintro e w3 ⟨rfl, rfl⟩)
                            | (go_at_call 5; (with_reducible refine (M6.out _).mono ?_); rintro e w3 ⟨rfl, rfl⟩)
                            | (go_at_call 5; (with_reducible refine (M3.out _).mono ?_); rintro e w3 ⟨rfl, rfl⟩))
                          refine wp_region_still_tail 11 (by kernel_rfl) (by kernel_rfl) ?_
                          simp only [List.take_succ_cons, List.take_zero, List.drop_succ_cons, List.drop_zero]
                          repeat (with_reducible refine wpStill_step ?_; intro K hK; go_simp; with_reducible refine hK _ ?_; clear hK K)
                          with_reducible refine wpStill_step ?_
                          intro K hK
                          go_simp
                          with_reducible refine ⟨_, MJS.out _, hK _ ?_⟩
                          clear hK K
                          with_reducible refine wpStill_nil ?_
                          change wpList _ _ _ _ _ wr.drew
                          obtain ⟨N2, dd2, _, Tk, Db⟩ := T2.out
                          obtain rfl : N = N2 := by
                            have h1 : wr.cell? ⟨P, 2, none⟩ = some (ptrV N2) := dd2
                            rw [d2] at h1; simpa using h1
                          have C2 := Lib.hid (Db j (by omega))
                          clear Tk Db dd2 T2 d2 m0 m1 m2 HLw LN hlen hj
                          generalize wr.drew = w2 at C2 ⊢
                          go_wp2_with (go_at_call 11; (with_reducible refine C2.out.mono ?_); rintro e w4 ⟨p4, ⟨u4, rfl⟩, hL4⟩)
                          have HS := Lib.hid hL4
                          clear hL4
                          go_roundw
                          case rel => exact ⟨ni, nk, nn + 1, _, g0, g1, y0, y1, rfl, rfl, by go_num, by omega, HS.out⟩
                          case measure => simp [intOf] <;> omega
          · have h3' : (k3 == 0) = false := by simpa using h3
            clear hk3 h3
            as_aux_lemma =>
              have hL := HLw.out
              obtain ⟨ad', hA', hel⟩ := rd_elem (size := 3) (enc := mailC) (fun _ => rfl) (HL.out.1.new_ hL.args) HL.out.2.2 HX.out.1
              obtain rfl : ad = ad' := by injection hA'
              have m0 : wr.cell? (ad.add (nn * 3)) = some (i64 x.kind) := by have := hel 0 _ rfl; simpa [Addr.add] using this
              have m1 : wr.cell? ⟨(ad.add (nn * 3)).block, (ad.add (nn * 3)).off + 1, none⟩ = some (i64 x.who) := hel 1 _ rfl
              have m2 : wr.cell? ⟨(ad.add (nn * 3)).block, (ad.add (nn * 3)).off + 2, none⟩ = some (i64 x.k) := hel 2 _ rfl
              clear hel hA'
              obtain ⟨N, d2, Ln, Tk, Db⟩ := law_net hL
              have LN := Lib.hid Ln
              clear Ln
              obtain ⟨len, hlen⟩ : ∃ len, p.net.length = len := ⟨_, rfl⟩
              rw [hlen] at LN Tk Db
              rcases Nat.eq_zero_or_pos len with hz | hz
              · have lk : decide (kk < 2) = false := by simp; omega
                subst hz
                clear Tk Db hL hlen
                go_wp2_with (first
                  | (go_at_call 7; (with_reducible refine LN.out.mono ?_); rintro e w3 ⟨rfl, rfl⟩)
                  | (go_at_call 5; (with_reducible refine (M6.out _).mono ?_); rintro e w3 ⟨rfl, rfl⟩)
                  | (go_at_call 5; (with_reducible refine (M3.out _).mono ?_); rintro e w3 ⟨rfl, rfl⟩))
                have HS := Lib.hid HLw.out
                go_roundw
                case rel => exact ⟨ni, nk, nn + 1, _, g0, g1, y0, y1, rfl, rfl, by go_num, by omega, HS.out⟩
                case measure => simp [intOf] <;> omega
              · have hroom := HLw.out.inv.inv.room
                obtain ⟨j, hj⟩ : ∃ j : Nat, x.k % (len : Int) = (j : Int) := ⟨(x.k % (len : Int)).toNat, by have := Int.emod_nonneg x.k (by omega : (len : Int) ≠ 0); omega⟩
                have hjl : j < len := by have := Int.emod_lt_of_pos x.k (by omega : (0 : Int) < (len : Int)); omega
                have MJ := Lib.hid (fun w => mod_small x.k (len : Int) w HX.out.2.2.2 (by omega) (by omega) (j : Int) hj)
                have z1 : ((len : Int) == 0) = false := by simp; omega
                have lk : decide (kk < 2) = false := by simp; omega
                rcases (by omega : kk < 4 ∨ kk = 4 ∨ kk = 5) with h | h | h
                · have C2 := Lib.hid (law_comes hL j (by omega))
                  clear Tk Db hL hlen hj
                  go_wp2_with (first
                    | (go_at_call 7; (with_reducible refine LN.out.mono ?_); rintro e w3 ⟨rfl, rfl⟩)
                    | (go_at_call 5; (with_reducible refine (M6.out _).mono ?_); rintro e w3 ⟨rfl, rfl⟩)
                    | (go_at_call 5; (with_reducible refine (M3.out _).mono ?_); rintro e w3 ⟨rfl, rfl⟩)
                    | (go_at_call 5; (with_reducible refine (MJ.out _).mono ?_); rintro e w3 ⟨rfl, rfl⟩)
                    | (go_at_call 9; (with_reducible refine C2.out.mono ?_); rintro e w4 ⟨⟨u4, rfl⟩, hL4⟩))
                  have HS := Lib.hid hL4
                  clear hL4
                  go_roundw
                  case rel => exact ⟨ni, nk, nn + 1, _, g0, g1, y0, y1, rfl, rfl, by go_num, by omega, HS.out⟩
                  case measure => simp [intOf] <;> omega
                · subst h
                  have MJS : Hid (∀ w, Calls Try.prog 5 #[i64 x.k, i64 (len : Int)] w fun e w' => e = .returned (i64 (j : Int)) ∧ w' = w) := fun w => (MJ.out w).mono fun e w' h => ⟨h.1, h.2.symm⟩
                  have T2 := Lib.hid ((law_net (HLw.out.new_ (Chg.refl [] wr).drew)))
                  clear Tk Db hL
                  go_wp2_with (first
                    | (go_at_call 7; (with_reducible refine LN.out.mono ?_); rintro e w3 ⟨rfl, rfl⟩)
                    | (go_at_call 5; (with_reducible refine (M6.out _).mono ?_); rintro e w3 ⟨rfl, rfl⟩)
                    | (go_at_call 5; (with_reducible refine (M3.out _).mono ?_); rintro e w3 ⟨rfl, rfl⟩))
                  refine wp_region_still_tail 11 (by kernel_rfl) (by kernel_rfl) ?_
                  simp only [List.take_succ_cons, List.take_zero, List.drop_succ_cons, List.drop_zero]
                  repeat (with_reducible refine wpStill_step ?_; intro K hK; go_simp; with_reducible refine hK _ ?_; clear hK K)
                  with_reducible refine wpStill_step ?_
                  intro K hK
                  go_simp
                  with_reducible refine ⟨_, MJS.out _, hK _ ?_⟩
                  clear hK K
                  with_reducible refine wpStill_nil ?_
                  change wpList _ _ _ _ _ wr.drew
                  obtain ⟨N2, dd2, _, Tk, Db⟩ := T2.out
                  obtain rfl : N = N2 := by
                    have h1 : wr.cell? ⟨P, 2, none⟩ = some (ptrV N2) := dd2
                    rw [d2] at h1; simpa using h1
                  have C2 := Lib.hid (Tk j (by omega))
                  clear Tk Db dd2 T2 d2 m0 m1 m2 HLw LN hlen hj
                  generalize wr.drew = w2 at C2 ⊢
                  go_wp2_with (go_at_call 10; (with_reducible refine C2.out.mono ?_); rintro e w4 ⟨p4, ⟨u4, rfl⟩, hL4⟩)
                  have HS := Lib.hid hL4
                  clear hL4
                  go_roundw
                  case rel => exact ⟨ni, nk, nn + 1, _, g0, g1, y0, y1, rfl, rfl, by go_num, by omega, HS.out⟩
                  case measure => simp [intOf] <;> omega
                · subst h
                  have MJS : Hid (∀ w, Calls Try.prog 5 #[i64 x.k, i64 (len : Int)] w fun e w' => e = .returned (i64 (j : Int)) ∧ w' = w) := fun w => (MJ.out w).mono fun e w' h => ⟨h.1, h.2.symm⟩
                  have T2 := Lib.hid ((law_net (HLw.out.new_ (Chg.refl [] wr).drew)))
                  clear Tk Db hL
                  go_wp2_with (first
                    | (go_at_call 7; (with_reducible refine LN.out.mono ?_); rintro e w3 ⟨rfl, rfl⟩)
                    | (go_at_call 5; (with_reducible refine (M6.out _).mono ?_); rintro e w3 ⟨rfl, rfl⟩)
                    | (go_at_call 5; (with_reducible refine (M3.out _).mono ?_); rintro e w3 ⟨rfl, rfl⟩))
                  refine wp_region_still_tail 11 (by kernel_rfl) (by kernel_rfl) ?_
                  simp only [List.take_succ_cons, List.take_zero, List.drop_succ_cons, List.drop_zero]
                  repeat (with_reducible refine wpStill_step ?_; intro K hK; go_simp; with_reducible refine hK _ ?_; clear hK K)
                  with_reducible refine wpStill_step ?_
                  intro K hK
                  go_simp
                  with_reducible refine ⟨_, MJS.out _, hK _ ?_⟩
                  clear hK K
                  with_reducible refine wpStill_nil ?_
                  change wpList _ _ _ _ _ wr.drew
                  obtain ⟨N2, dd2, _, Tk, Db⟩ := T2.out
                  obtain rfl : N = N2 := by
                    have h1 : wr.cell? ⟨P, 2, none⟩ = some (ptrV N2) := dd2
                    rw [d2] at h1; simpa using h1
                  have C2 := Lib.hid (Db j (by omega))
                  clear Tk Db dd2 T2 d2 m0 m1 m2 HLw LN hlen hj
                  generalize wr.drew = w2 at C2 ⊢
                  go_wp2_with (go_at_call 11; (with_reducible refine C2.out.mono ?_); rintro e w4 ⟨p4, ⟨u4, rfl⟩, hL4⟩)
                  have HS := Lib.hid hL4
                  clear hL4
                  go_roundw
                  case rel => exact ⟨ni, nk, nn + 1, _, g0, g1, y0, y1, rfl, rfl, by go_num, by omega, HS.out⟩
                  case measure => simp [intOf] <;> omega
        · have hk1' : decide (1 < kk) = false := by simp; omega
          clear hk3
          as_aux_lemma =>
            have hL := HLw.out
            obtain ⟨ad', hA', hel⟩ := rd_elem (size := 3) (enc := mailC) (fun _ => rfl) (HL.out.1.new_ hL.args) HL.out.2.2 HX.out.1
            obtain rfl : ad = ad' := by injection hA'
            have m0 : wr.cell? (ad.add (nn * 3)) = some (i64 x.kind) := by have := hel 0 _ rfl; simpa [Addr.add] using this
            have m1 : wr.cell? ⟨(ad.add (nn * 3)).block, (ad.add (nn * 3)).off + 1, none⟩ = some (i64 x.who) := hel 1 _ rfl
            have m2 : wr.cell? ⟨(ad.add (nn * 3)).block, (ad.add (nn * 3)).off + 2, none⟩ = some (i64 x.k) := hel 2 _ rfl
            clear hel hA'
            obtain ⟨N, d2, Ln, Tk, Db⟩ := law_net hL
            have LN := Lib.hid Ln
            clear Ln
            obtain ⟨len, hlen⟩ : ∃ len, p.net.length = len := ⟨_, rfl⟩
            rw [hlen] at LN Tk Db
            clear Tk Db
            have lk : kk < 2 := by omega
            rcases (by have := KW.out.2; omega : kw = 0 ∨ kw = 1) with h | h
            · subst h
              have P0 := Lib.hid (law_post0 hL)
              clear hL hlen
              go_wp2_with (first
                | (go_at_call 7; (with_reducible refine LN.out.mono ?_); rintro e w3 ⟨rfl, rfl⟩)
                | (go_at_call 5; (with_reducible refine (M6.out _).mono ?_); rintro e w3 ⟨rfl, rfl⟩)
                | (go_at_call 5; (with_reducible refine (M3.out _).mono ?_); rintro e w3 ⟨rfl, rfl⟩)
                | (go_at_call 5; (with_reducible refine (MW.out _).mono ?_); rintro e w3 ⟨rfl, rfl⟩)
                | (go_at_call 8; (with_reducible refine P0.out.mono ?_); rintro e w4 ⟨⟨u4, rfl⟩, hL4⟩))
              have HS := Lib.hid hL4
              clear hL4
              go_roundw
              case rel => exact ⟨ni, nk, nn + 1, _, g0, g1, y0, y1, rfl, rfl, by go_num, by omega, HS.out⟩
              case measure => simp [intOf] <;> omega
            · subst h
              have P0 := Lib.hid (law_post1 hL)
              clear hL hlen
              go_wp2_with (first
                | (go_at_call 7; (with_reducible refine LN.out.mono ?_); rintro e w3 ⟨rfl, rfl⟩)
                | (go_at_call 5; (with_reducible refine (M6.out _).mono ?_); rintro e w3 ⟨rfl, rfl⟩)
                | (go_at_call 5; (with_reducible refine (M3.out _).mono ?_); rintro e w3 ⟨rfl, rfl⟩)
                | (go_at_call 5; (with_reducible refine (MW.out _).mono ?_); rintro e w3 ⟨rfl, rfl⟩)
                | (go_at_call 8; (with_reducible refine P0.out.mono ?_); rintro e w4 ⟨⟨u4, rfl⟩, hL4⟩))
              have HS := Lib.hid hL4
              clear hL4
              go_roundw
              case rel => exact ⟨ni, nk, nn + 1, _, g0, g1, y0, y1, rfl, rfl, by go_num, by omega, HS.out⟩
              case measure => simp [intOf] <;> omega
    · as_aux_lemma =>
        have : nn = nl := by omega
        subst this
        go_wp2_with fail
        go_loopw [10] (fun i wr => SayA W P C0 D xa xb nk g1 y1 i wr) (fun i _ => na - (intOf i).toNat)
        case atStart => exact ⟨ni, p, g0, y0, rfl, HLw.out⟩
        case round =>
          obtain ⟨ni, p, g0, y0, rfl, hL⟩ := hrel
          clear HLw
          have HLw := Lib.hid hL
          rcases Nat.lt_or_ge ni na with hi | hi
          · obtain ⟨ad, rfl, hel⟩ := rd_elem (size := 6) (enc := msgC) (fun _ => rfl) (HA.out.1.new_ hL.args) HA.out.2.2 (List.getElem?_eq_getElem (by have := HA.out.2.2; omega : ni < xa.length))
            have hxa := List.getElem?_eq_getElem (by have := HA.out.2.2; omega : ni < xa.length)
            have hin := (HA.out.2.1 _ (List.getElem_mem (by have := HA.out.2.2; omega : ni < xa.length))).new_ hL.args
            generalize xa[ni]'(by have := HA.out.2.2; omega) = y at hel hxa hin
            have c0 : wr.cell? (ad.add (ni * 6)) = some (i64 y.m.kind) := by have := hel 0 _ rfl; simpa [Addr.add] using this
            have c1 : wr.cell? ⟨(ad.add (ni * 6)).block, (ad.add (ni * 6)).off + 1, none⟩ = some (i64 y.m.t) := hel 1 _ rfl
            have c2 : wr.cell? ⟨(ad.add (ni * 6)).block, (ad.add (ni * 6)).off + 2, none⟩ = some (i64 y.m.n) := hel 2 _ rfl
            have c3 : wr.cell? ⟨(ad.add (ni * 6)).block, (ad.add (ni * 6)).off + 3, none⟩ = some (.slice y.s1.1 y.m.cmds.length y.s1.2) := hel 3 _ rfl
            have c4 : wr.cell? ⟨(ad.add (ni * 6)).block, (ad.add (ni * 6)).off + 4, none⟩ = some (.slice y.s2.1 y.m.buns.length y.s2.2) := hel 4 _ rfl
            have c5 : wr.cell? ⟨(ad.add (ni * 6)).block, (ad.add (ni * 6)).off + 5, none⟩ = some (.slice y.s3.1 y.m.ids.length y.s3.2) := hel 5 _ rfl
            have d0 : wr.cell? ⟨D, 0, none⟩ = some g0 := hL.at_.blk.cell 0
            have S1 := Lib.hid (law_says0 (hL.new_ (Chg.refl [] wr).drew) hxa (hin.new_ (Chg.refl [] wr).drew))
            have b0 : (0 : Int) ≤ (ni : Int) := by omega
            have b1 : (ni : Int) < (na : Int) := by omega
            clear hel hxa hin hL
            go_wp2_with fail
            refine wp_region_still_tail 7 (by kernel_rfl) (by kernel_rfl) ?_
            simp only [List.take_succ_cons, List.take_zero, List.drop_succ_cons, List.drop_zero]
            repeat (with_reducible refine wpStill_step ?_; intro K hK; go_simp; with_reducible refine hK _ ?_; clear hK K)
            with_reducible refine wpStill_nil ?_
            change wpList _ _ _ _ _ wr.drew
            clear c0 c1 c2 c3 c4 c5 d0
            generalize wr.drew = w2 at S1 ⊢
            go_wp2_with fail
            (with_reducible refine S1.out.mono ?_)
            rintro e w3 ⟨A', n', c', p', y', rfl, hB3, hL3⟩
            have q3 : w3.cell? ⟨D, 0, none⟩ = some g0 := hB3.cell 0
            have f3 := hB3.frozen 0
            have HL3 := Lib.hid hL3
            clear hB3 hL3 S1
            go_wp2_with fail
            go_roundw
            case rel => exact ⟨ni + 1, p', _, y', by go_num, HL3.out⟩
            case measure => simp [intOf]; omega
          · clear hL
            go_wp2_with fail
            go_loopw [11] (fun i wr => SayB W P C0 D xa xb ni g0 y0 i wr) (fun i _ => nb - (intOf i).toNat)
            case atStart => exact ⟨nk, p, g1, y1, rfl, HLw.out⟩
            case round =>
              obtain ⟨nk, p, g1, y1, rfl, hL⟩ := hrel
              clear HLw
              have HLw := Lib.hid hL
              rcases Nat.lt_or_ge nk nb with hi | hi
              · obtain ⟨ad, rfl, hel⟩ := rd_elem (size := 6) (enc := msgC) (fun _ => rfl) (HB.out.1.new_ hL.args) HB.out.2.2 (List.getElem?_eq_getElem (by have := HB.out.2.2; omega : nk < xb.length))
                have hxa := List.getElem?_eq_getElem (by have := HB.out.2.2; omega : nk < xb.length)
                have hin := (HB.out.2.1 _ (List.getElem_mem (by have := HB.out.2.2; omega : nk < xb.length))).new_ hL.args
                generalize xb[nk]'(by have := HB.out.2.2; omega) = y at hel hxa hin
                have c0 : wr.cell? (ad.add (nk * 6)) = some (i64 y.m.kind) := by have := hel 0 _ rfl; simpa [Addr.add] using this
                have c1 : wr.cell? ⟨(ad.add (nk * 6)).block, (ad.add (nk * 6)).off + 1, none⟩ = some (i64 y.m.t) := hel 1 _ rfl
                have c2 : wr.cell? ⟨(ad.add (nk * 6)).block, (ad.add (nk * 6)).off + 2, none⟩ = some (i64 y.m.n) := hel 2 _ rfl
                have c3 : wr.cell? ⟨(ad.add (nk * 6)).block, (ad.add (nk * 6)).off + 3, none⟩ = some (.slice y.s1.1 y.m.cmds.length y.s1.2) := hel 3 _ rfl
                have c4 : wr.cell? ⟨(ad.add (nk * 6)).block, (ad.add (nk * 6)).off + 4, none⟩ = some (.slice y.s2.1 y.m.buns.length y.s2.2) := hel 4 _ rfl
                have c5 : wr.cell? ⟨(ad.add (nk * 6)).block, (ad.add (nk * 6)).off + 5, none⟩ = some (.slice y.s3.1 y.m.ids.length y.s3.2) := hel 5 _ rfl
                have d0 : wr.cell? ⟨D, 1, none⟩ = some g1 := hL.at_.blk.cell 1
                have S1 := Lib.hid (law_says1 (hL.new_ (Chg.refl [] wr).drew) hxa (hin.new_ (Chg.refl [] wr).drew))
                have b0 : (0 : Int) ≤ (nk : Int) := by omega
                have b1 : (nk : Int) < (nb : Int) := by omega
                clear hel hxa hin hL
                go_wp2_with fail
                refine wp_region_still_tail 7 (by kernel_rfl) (by kernel_rfl) ?_
                simp only [List.take_succ_cons, List.take_zero, List.drop_succ_cons, List.drop_zero]
                repeat (with_reducible refine wpStill_step ?_; intro K hK; go_simp; with_reducible refine hK _ ?_; clear hK K)
                with_reducible refine wpStill_nil ?_
                change wpList _ _ _ _ _ wr.drew
                clear c0 c1 c2 c3 c4 c5 d0
                generalize wr.drew = w2 at S1 ⊢
                go_wp2_with fail
                (with_reducible refine S1.out.mono ?_)
                rintro e w3 ⟨A', n', c', p', y', rfl, hB3, hL3⟩
                have q3 : w3.cell? ⟨D, 1, none⟩ = some g1 := hB3.cell 1
                have f3 := hB3.frozen 1
                have HL3 := Lib.hid hL3
                clear hB3 hL3 S1
                go_wp2_with fail
                go_roundw
                case rel => exact ⟨nk + 1, p', _, y', by go_num, HL3.out⟩
                case measure => simp [intOf]; omega
              · clear hL
                go_wp2_with fail
                as_aux_lemma =>
                  go_loopw [15] (fun n wr => FinL W P C0 D xa xb ni nk g0 g1 y0 y1 n wr) (fun n _ => 4096 - (intOf n).toNat)
                  case atStart => exact ⟨0, p, rfl, HLw.out, .inl rfl⟩
                  case round =>
                    clear HLw
                    obtain ⟨nn, p, rfl, hL, hH⟩ := hrel
                    have HLw := Lib.hid hL
                    obtain ⟨N, d2, Ln, _, _⟩ := law_net hL
                    have LN := Lib.hid Ln
                    clear Ln
                    obtain ⟨len, hlen⟩ : ∃ len, p.net.length = len := ⟨_, rfl⟩
                    rw [hlen] at LN
                    have HLEN := Lib.hid hlen
                    have HH := Lib.hid hH
                    clear hL hlen hH
                    rcases Nat.eq_zero_or_pos nn with h0 | h0
                    · subst h0
                      go_wp2_with fail
                      clear d2 LN
                      go_loopg [] len (fun gk wr => RndL W P C0 D xa xb ni nk g0 g1 y0 y1 p gk wr)
                      case atStart => exact ⟨p, HLw.out, Round.start HLw.out.inv.inv, HLEN.out⟩
                      case round =>
                        obtain ⟨q, hq, hr, hlen⟩ := hrel
                        obtain ⟨N, d2, Ln, _, _⟩ := law_net hq
                        rw [hlen] at Ln
                        have LN := Lib.hid Ln
                        have HQ := Lib.hid (And.intro hq (And.intro hr hlen))
                        clear Ln hr hlen
                        rcases Nat.eq_zero_or_pos gk with hg0 | hgp
                        · subst hg0
                          have P0 := Lib.hid (law_post0 hq)
                          clear hq
                          go_wp2_with (first
                            | (go_at_call 7; (with_reducible refine LN.out.mono ?_); rintro e w3 ⟨rfl, rfl⟩)
                            | (go_at_call 8; (with_reducible refine P0.out.mono ?_); rintro e w4 ⟨⟨u4, rfl⟩, hL4⟩; have P1 := Lib.hid (law_post1 hL4); clear hL4)
                            | (go_at_call 8; (with_reducible refine P1.out.mono ?_); rintro e w5 ⟨⟨u5, rfl⟩, hL5⟩))
                          have HF := Lib.hid hL5
                          clear hL5
                          go_roundw
                          case rel => exact ⟨0 + 1, (q.post 0).post 1, by go_num, HF.out, .inr ⟨by omega, by omega, head_first HQ.out.2.1 (List.eq_nil_of_length_eq_zero HQ.out.2.2) HQ.out.1.inv.w0 HQ.out.1.inv.w1⟩⟩
                          case measure => simp [intOf] <;> omega
                        · have C2 := Lib.hid (law_comes0 hq (by have := HQ.out.2.2; omega))
                          have hgi : (0 : Int) < (gk : Int) := by omega
                          clear hq
                          go_wp2_with (first
                            | (go_at_call 7; (with_reducible refine LN.out.mono ?_); rintro e w3 ⟨rfl, rfl⟩)
                            | (go_at_call 9; (with_reducible refine C2.out.mono ?_); rintro e w4 ⟨⟨u4, rfl⟩, hL4⟩))
                          have HF := Lib.hid hL4
                          clear hL4
                          go_roundg (gk - 1)
                          case measure => omega
                          case rel =>
                            have hs := Round.step HLw.out.inv.inv HQ.out.2.1 (by have := HQ.out.2.2; omega)
                            exact ⟨_, HF.out, hs.1, by have := hs.2; have := HQ.out.2.2; omega⟩
                    · have e0 : ((nn : Int) == 0) = false := by simp; omega
                      have hhd : Hid (Head p (y0.map HM.m) (y1.map HM.m) nn) := by
                        rcases HH.out with h | h
                        · omega
                        · exact h.2.2
                      have hn2 : nn ≤ 2052 := by
                        rcases HH.out with h | h
                        · omega
                        · exact h.2.1
                      have h4 : (nn : Int) < 4096 := by omega
                      rcases Nat.eq_zero_or_pos len with hz | hz
                      · subst hz
                        have HDN : Hid (p.net = []) := List.eq_nil_of_length_eq_zero HLEN.out
                        go_wp2_with (go_at_call 7; (with_reducible refine LN.out.mono ?_); rintro e w3 ⟨rfl, rfl⟩)
                        as_aux_lemma =>
                          obtain ⟨C1, N', A0, A1, B0, B1, n0, n1, c0, c1, d0, d1, x0, x1, hfin⟩ := law_fin HA.out.2.1 HB.out.2.1 HLw.out hhd.out HDN.out
                          have HF := Lib.hid hfin
                          have HCH := Lib.hid HLw.out.chg
                          clear hfin HLw hhd HDN HH
                          clear d2 LN
                          go_loopw [16, 17] (fun n _ wr => FinN W P D C0 C1 N' A0 A1 B0 B1 n0 n1 c0 c1 d0 d1 x0 x1 y0 y1 n wr) (fun n _ _ => 2 - (intOf n).toNat)
                          case atStart => exact ⟨0, rfl, by omega, HF.out, HCH.out⟩
                          case round =>
                            clear HF HCH
                            obtain ⟨kk, rfl, hkk, hF, hC⟩ := hrel
                            have HF := Lib.hid hF
                            have HCH := Lib.hid hC
                            clear hF hC
                            rcases (by omega : kk = 0 ∨ kk = 1 ∨ kk = 2) with h | h | h
                            · subst h
                              have pH : wr.cell? ⟨P, 3, none⟩ = some (.slice A0 n0 c0) := HF.out.p.cell 3
                              have wz1 : IntKind.i64.wrap 1 = 1 := by decide
                              have wz0 : IntKind.i64.wrap 0 = 0 := by decide
                              have pE : wr.cell? ⟨P, 0, none⟩ = some (ptrV C0) := HF.out.p.cell 0
                              have dS : wr.cell? ⟨D, 1, none⟩ = some (.slice B1 n0 d1) := HF.out.d.cell 1
                              obtain ⟨V, cv, hv⟩ := HF.out.w0
                              have WT := Lib.hid (waiting_any C0 V 0 cv wr.drew hv)
                              clear hv
                              go_wp2_with fail
                              refine wp_region_still_tail 20 (by kernel_rfl) (by kernel_rfl) ?_
                              simp only [List.take_succ_cons, List.take_zero, List.drop_succ_cons, List.drop_zero]
                              repeat (with_reducible refine wpStill_step ?_; intro K hK; go_simp; with_reducible refine hK _ ?_; clear hK K)
                              with_reducible refine wpStill_nil ?_
                              change wpList _ _ _ _ _ wr.drew
                              clear pH pE dS
                              have HF2 := Lib.hid (HF.out.new_ (Chg.refl [] wr).drew)
                              have HC2 : Hid (ChgF [] W.heap.size W wr.drew) := HCH.out.trans (ChgF.of (S := []) (Chg.refl [] wr).drew HCH.out.size (by simp))
                              clear HF HCH
                              generalize wr.drew = w2 at WT HF2 HC2 ⊢
                              go_wp2_with (go_at_call 12; (with_reducible refine WT.out.mono ?_); rintro e w3 ⟨rfl, rfl⟩)
                              clear WT
                              go_loopw [17] (fun j wr => ∃ jj : Nat, j = .int .i64 (jj : Nat) ∧ jj ≤ n0 ∧ FinAt wr P D C0 C1 N' A0 A1 B0 B1 n0 n1 c0 c1 d0 d1 x0 x1 y0 y1 ∧ ChgF [] W.heap.size W wr) (fun j _ => n0 - (intOf j).toNat)
                              case atStart => exact ⟨0, rfl, Nat.zero_le _, HF2.out, HC2.out⟩
                              case round =>
                                clear HF2 HC2
                                obtain ⟨jj, rfl, hjl, hF, hC⟩ := hrel
                                have HF := Lib.hid hF
                                have HCH := Lib.hid hC
                                have pH : wr.cell? ⟨P, 3, none⟩ = some (.slice A0 n0 c0) := hF.p.cell 3
                                have dS : wr.cell? ⟨D, 1, none⟩ = some (.slice B1 n0 d1) := hF.d.cell 1
                                clear hF hC
                                rcases Nat.lt_or_ge jj n0 with hj | hj
                                · obtain ⟨ad, hA, hel⟩ := rd_elem (size := 6) (enc := msgC) (fun _ => rfl) HF.out.h0 HF.out.l0 (List.getElem?_eq_getElem (by have := HF.out.l0; omega : jj < x0.length))
                                  have hly : y1.length = n0 := by have := congrArg List.length HF.out.e0; have h2 := HF.out.l0; simp at this; omega
                                  obtain ⟨ae, hB, hem⟩ := rd_elem (size := 6) (enc := msgC) (fun _ => rfl) HF.out.s1 hly (List.getElem?_eq_getElem (by omega : jj < y1.length))
                                  have hin := HF.out.i0 _ (List.getElem_mem (by have := HF.out.l0; omega : jj < x0.length))
                                  have hjn := HF.out.j1 _ (List.getElem_mem (by omega : jj < y1.length))
                                  have hmm : (x0[jj]'(by have := HF.out.l0; omega)).m = (y1[jj]'(by omega)).m := by
                                    have h1 := congrArg (fun l => l[jj]?) HF.out.e0
                                    simp only [List.getElem?_map] at h1
                                    rw [List.getElem?_eq_getElem (by have := HF.out.l0; omega : jj < x0.length), List.getElem?_eq_getElem (by omega : jj < y1.length)] at h1
                                    simpa using h1
                                  generalize x0[jj]'(by have := HF.out.l0; omega) = y at hel hin hmm
                                  generalize y1[jj]'(by omega) = z at hem hjn hmm
                                  obtain ⟨zm, z1, z2, z3⟩ := z
                                  dsimp only at hmm
                                  subst hmm
                                  subst hA hB
                                  have c0 : wr.cell? (ad.add (jj * 6)) = some (i64 y.m.kind) := by have := hel 0 _ rfl; simpa [Addr.add] using this
                                  have c1 : wr.cell? ⟨(ad.add (jj * 6)).block, (ad.add (jj * 6)).off + 1, none⟩ = some (i64 y.m.t) := hel 1 _ rfl
                                  have c2 : wr.cell? ⟨(ad.add (jj * 6)).block, (ad.add (jj * 6)).off + 2, none⟩ = some (i64 y.m.n) := hel 2 _ rfl
                                  have c3 : wr.cell? ⟨(ad.add (jj * 6)).block, (ad.add (jj * 6)).off + 3, none⟩ = some (.slice y.s1.1 y.m.cmds.length y.s1.2) := hel 3 _ rfl
                                  have c4 : wr.cell? ⟨(ad.add (jj * 6)).block, (ad.add (jj * 6)).off + 4, none⟩ = some (.slice y.s2.1 y.m.buns.length y.s2.2) := hel 4 _ rfl
                                  have c5 : wr.cell? ⟨(ad.add (jj * 6)).block, (ad.add (jj * 6)).off + 5, none⟩ = some (.slice y.s3.1 y.m.ids.length y.s3.2) := hel 5 _ rfl
                                  have k0 : wr.cell? (ae.add (jj * 6)) = some (i64 y.m.kind) := by have := hem 0 _ rfl; simpa [Addr.add] using this
                                  have k1 : wr.cell? ⟨(ae.add (jj * 6)).block, (ae.add (jj * 6)).off + 1, none⟩ = some (i64 y.m.t) := hem 1 _ rfl
                                  have k2 : wr.cell? ⟨(ae.add (jj * 6)).block, (ae.add (jj * 6)).off + 2, none⟩ = some (i64 y.m.n) := hem 2 _ rfl
                                  have k3 : wr.cell? ⟨(ae.add (jj * 6)).block, (ae.add (jj * 6)).off + 3, none⟩ = some (.slice z1.1 y.m.cmds.length z1.2) := hem 3 _ rfl
                                  have k4 : wr.cell? ⟨(ae.add (jj * 6)).block, (ae.add (jj * 6)).off + 4, none⟩ = some (.slice z2.1 y.m.buns.length z2.2) := hem 4 _ rfl
                                  have k5 : wr.cell? ⟨(ae.add (jj * 6)).block, (ae.add (jj * 6)).off + 5, none⟩ = some (.slice z3.1 y.m.ids.length z3.2) := hem 5 _ rfl
                                  have SM := Lib.hid (same_any y.m y.s1 y.s2 y.s3 z1 z2 z3 wr.drew (hin.new_ (Chg.refl [] wr).drew) (hjn.new_ (Chg.refl [] wr).drew))
                                  have b0 : (0 : Int) ≤ (jj : Int) := by omega
                                  have b1 : (jj : Int) < (n0 : Int) := by omega
                                  have hrr : (n0 : Int) ≤ 1048576 := by have := HF.out.r0; omega
                                  clear hel hem hin hjn hly
                                  go_wp2_with fail
                                  refine wp_region_still_tail 16 (by kernel_rfl) (by kernel_rfl) ?_
                                  simp only [List.take_succ_cons, List.take_zero, List.drop_succ_cons, List.drop_zero]
                                  repeat (with_reducible refine wpStill_step ?_; intro K hK; go_simp; with_reducible refine hK _ ?_; clear hK K)
                                  with_reducible refine wpStill_nil ?_
                                  change wpList _ _ _ _ _ wr.drew
                                  clear c0 c1 c2 c3 c4 c5 k0 k1 k2 k3 k4 k5 pH dS
                                  have HF2 := Lib.hid (HF.out.new_ (Chg.refl [] wr).drew)
                                  have HC2 : Hid (ChgF [] W.heap.size W wr.drew) := HCH.out.trans (ChgF.of (S := []) (Chg.refl [] wr).drew HCH.out.size (by simp))
                                  clear HF HCH
                                  generalize wr.drew = w2 at SM HF2 HC2 ⊢
                                  go_wp2_with fail
                                  (with_reducible refine SM.out.mono ?_)
                                  rintro e w3 ⟨rfl, hg3⟩
                                  have HF3 := Lib.hid (HF2.out.new_ hg3)
                                  have HC3 : Hid (ChgF [] W.heap.size W w3) := HC2.out.trans (ChgF.of (S := []) hg3 HC2.out.size (by simp))
                                  clear SM hg3 HF2 HC2
                                  go_wp2_with fail
                                  go_roundw
                                  case rel => exact ⟨jj + 1, by go_num, by omega, HF3.out, HC3.out⟩
                                  case measure => simp [intOf]; omega
                                · have : jj = n0 := by omega
                                  subst this
                                  go_wp2_with fail
                                  go_roundw
                                  case rel => exact ⟨1, by go_num, by omega, HF.out, HCH.out⟩
                                  case measure => simp [intOf] <;> omega
                            · subst h
                              have pH : wr.cell? ⟨P, 4, none⟩ = some (.slice A1 n1 c1) := HF.out.p.cell 4
                              have wz1 : IntKind.i64.wrap 1 = 1 := by decide
                              have wz0 : IntKind.i64.wrap 0 = 0 := by decide
                              have pE : wr.cell? ⟨P, 1, none⟩ = some (ptrV C1) := HF.out.p.cell 1
                              have dS : wr.cell? ⟨D, 0, none⟩ = some (.slice B0 n1 d0) := HF.out.d.cell 0
                              obtain ⟨V, cv, hv⟩ := HF.out.w1
                              have WT := Lib.hid (waiting_any C1 V 0 cv wr.drew hv)
                              clear hv
                              go_wp2_with fail
                              refine wp_region_still_tail 20 (by kernel_rfl) (by kernel_rfl) ?_
                              simp only [List.take_succ_cons, List.take_zero, List.drop_succ_cons, List.drop_zero]
                              repeat (with_reducible refine wpStill_step ?_; intro K hK; go_simp; with_reducible refine hK _ ?_; clear hK K)
                              with_reducible refine wpStill_nil ?_
                              change wpList _ _ _ _ _ wr.drew
                              clear pH pE dS
                              have HF2 := Lib.hid (HF.out.new_ (Chg.refl [] wr).drew)
                              have HC2 : Hid (ChgF [] W.heap.size W wr.drew) := HCH.out.trans (ChgF.of (S := []) (Chg.refl [] wr).drew HCH.out.size (by simp))
                              clear HF HCH
                              generalize wr.drew = w2 at WT HF2 HC2 ⊢
                              go_wp2_with (go_at_call 12; (with_reducible refine WT.out.mono ?_); rintro e w3 ⟨rfl, rfl⟩)
                              clear WT
                              go_loopw [17] (fun j wr => ∃ jj : Nat, j = .int .i64 (jj : Nat) ∧ jj ≤ n1 ∧ FinAt wr P D C0 C1 N' A0 A1 B0 B1 n0 n1 c0 c1 d0 d1 x0 x1 y0 y1 ∧ ChgF [] W.heap.size W wr) (fun j _ => n1 - (intOf j).toNat)
                              case atStart => exact ⟨0, rfl, Nat.zero_le _, HF2.out, HC2.out⟩
                              case round =>
                                clear HF2 HC2
                                obtain ⟨jj, rfl, hjl, hF, hC⟩ := hrel
                                have HF := Lib.hid hF
                                have HCH := Lib.hid hC
                                have pH : wr.cell? ⟨P, 4, none⟩ = some (.slice A1 n1 c1) := hF.p.cell 4
                                have dS : wr.cell? ⟨D, 0, none⟩ = some (.slice B0 n1 d0) := hF.d.cell 0
                                clear hF hC
                                rcases Nat.lt_or_ge jj n1 with hj | hj
                                · obtain ⟨ad, hA, hel⟩ := rd_elem (size := 6) (enc := msgC) (fun _ => rfl) HF.out.h1 HF.out.l1 (List.getElem?_eq_getElem (by have := HF.out.l1; omega : jj < x1.length))
                                  have hly : y0.length = n1 := by have := congrArg List.length HF.out.e1; have h2 := HF.out.l1; simp at this; omega
                                  obtain ⟨ae, hB, hem⟩ := rd_elem (size := 6) (enc := msgC) (fun _ => rfl) HF.out.s0 hly (List.getElem?_eq_getElem (by omega : jj < y0.length))
                                  have hin := HF.out.i1 _ (List.getElem_mem (by have := HF.out.l1; omega : jj < x1.length))
                                  have hjn := HF.out.j0 _ (List.getElem_mem (by omega : jj < y0.length))
                                  have hmm : (x1[jj]'(by have := HF.out.l1; omega)).m = (y0[jj]'(by omega)).m := by
                                    have h1 := congrArg (fun l => l[jj]?) HF.out.e1
                                    simp only [List.getElem?_map] at h1
                                    rw [List.getElem?_eq_getElem (by have := HF.out.l1; omega : jj < x1.length), List.getElem?_eq_getElem (by omega : jj < y0.length)] at h1
                                    simpa using h1
                                  generalize x1[jj]'(by have := HF.out.l1; omega) = y at hel hin hmm
                                  generalize y0[jj]'(by omega) = z at hem hjn hmm
                                  obtain ⟨zm, z1, z2, z3⟩ := z
                                  dsimp only at hmm
                                  subst hmm
                                  subst hA hB
                                  have c0 : wr.cell? (ad.add (jj * 6)) = some (i64 y.m.kind) := by have := hel 0 _ rfl; simpa [Addr.add] using this
                                  have c1 : wr.cell? ⟨(ad.add (jj * 6)).block, (ad.add (jj * 6)).off + 1, none⟩ = some (i64 y.m.t) := hel 1 _ rfl
                                  have c2 : wr.cell? ⟨(ad.add (jj * 6)).block, (ad.add (jj * 6)).off + 2, none⟩ = some (i64 y.m.n) := hel 2 _ rfl
                                  have c3 : wr.cell? ⟨(ad.add (jj * 6)).block, (ad.add (jj * 6)).off + 3, none⟩ = some (.slice y.s1.1 y.m.cmds.length y.s1.2) := hel 3 _ rfl
                                  have c4 : wr.cell? ⟨(ad.add (jj * 6)).block, (ad.add (jj * 6)).off + 4, none⟩ = some (.slice y.s2.1 y.m.buns.length y.s2.2) := hel 4 _ rfl
                                  have c5 : wr.cell? ⟨(ad.add (jj * 6)).block, (ad.add (jj * 6)).off + 5, none⟩ = some (.slice y.s3.1 y.m.ids.length y.s3.2) := hel 5 _ rfl
                                  have k0 : wr.cell? (ae.add (jj * 6)) = some (i64 y.m.kind) := by have := hem 0 _ rfl; simpa [Addr.add] using this
                                  have k1 : wr.cell? ⟨(ae.add (jj * 6)).block, (ae.add (jj * 6)).off + 1, none⟩ = some (i64 y.m.t) := hem 1 _ rfl
                                  have k2 : wr.cell? ⟨(ae.add (jj * 6)).block, (ae.add (jj * 6)).off + 2, none⟩ = some (i64 y.m.n) := hem 2 _ rfl
                                  have k3 : wr.cell? ⟨(ae.add (jj * 6)).block, (ae.add (jj * 6)).off + 3, none⟩ = some (.slice z1.1 y.m.cmds.length z1.2) := hem 3 _ rfl
                                  have k4 : wr.cell? ⟨(ae.add (jj * 6)).block, (ae.add (jj * 6)).off + 4, none⟩ = some (.slice z2.1 y.m.buns.length z2.2) := hem 4 _ rfl
                                  have k5 : wr.cell? ⟨(ae.add (jj * 6)).block, (ae.add (jj * 6)).off + 5, none⟩ = some (.slice z3.1 y.m.ids.length z3.2) := hem 5 _ rfl
                                  have SM := Lib.hid (same_any y.m y.s1 y.s2 y.s3 z1 z2 z3 wr.drew (hin.new_ (Chg.refl [] wr).drew) (hjn.new_ (Chg.refl [] wr).drew))
                                  have b0 : (0 : Int) ≤ (jj : Int) := by omega
                                  have b1 : (jj : Int) < (n1 : Int) := by omega
                                  have hrr : (n1 : Int) ≤ 1048576 := by have := HF.out.r1; omega
                                  clear hel hem hin hjn hly
                                  go_wp2_with fail
                                  refine wp_region_still_tail 16 (by kernel_rfl) (by kernel_rfl) ?_
                                  simp only [List.take_succ_cons, List.take_zero, List.drop_succ_cons, List.drop_zero]
                                  repeat (with_reducible refine wpStill_step ?_; intro K hK; go_simp; with_reducible refine hK _ ?_; clear hK K)
                                  with_reducible refine wpStill_nil ?_
                                  change wpList _ _ _ _ _ wr.drew
                                  clear c0 c1 c2 c3 c4 c5 k0 k1 k2 k3 k4 k5 pH dS
                                  have HF2 := Lib.hid (HF.out.new_ (Chg.refl [] wr).drew)
                                  have HC2 : Hid (ChgF [] W.heap.size W wr.drew) := HCH.out.trans (ChgF.of (S := []) (Chg.refl [] wr).drew HCH.out.size (by simp))
                                  clear HF HCH
                                  generalize wr.drew = w2 at SM HF2 HC2 ⊢
                                  go_wp2_with fail
                                  (with_reducible refine SM.out.mono ?_)
                                  rintro e w3 ⟨rfl, hg3⟩
                                  have HF3 := Lib.hid (HF2.out.new_ hg3)
                                  have HC3 : Hid (ChgF [] W.heap.size W w3) := HC2.out.trans (ChgF.of (S := []) hg3 HC2.out.size (by simp))
                                  clear SM hg3 HF2 HC2
                                  go_wp2_with fail
                                  go_roundw
                                  case rel => exact ⟨jj + 1, by go_num, by omega, HF3.out, HC3.out⟩
                                  case measure => simp [intOf]; omega
                                · have : jj = n1 := by omega
                                  subst this
                                  go_wp2_with fail
                                  go_roundw
                                  case rel => exact ⟨2, by go_num, by omega, HF.out, HCH.out⟩
                                  case measure => simp [intOf] <;> omega
                            · subst h
                              have pB : wr.cell? ⟨P, 5, none⟩ = some (.bool false) := HF.out.p.cell 5
                              have pN : wr.cell? ⟨P, 2, none⟩ = some (ptrV N') := HF.out.p.cell 2
                              obtain ⟨V, cv, hv⟩ := HF.out.net
                              have LZ := Lib.hid (netLen_any N' V 0 cv wr hv)
                              clear hv
                              go_wp2_with (go_at_call 7; (with_reducible refine LZ.out.mono ?_); rintro e w3 ⟨rfl, rfl⟩)
                              go_ret
                              exact ⟨rfl, HCH.out⟩
                      · have hn3 : nn ≤ 2051 := by
                          rcases hhd.out.fuel with h | h
                          · have := HLEN.out; rw [h] at this; simp at this; omega
                          · omega
                        have h5 : (0 : Int) < (len : Int) := by omega
                        go_wp2_with (go_at_call 7; (with_reducible refine LN.out.mono ?_); rintro e w3 ⟨rfl, rfl⟩)
                        clear d2 LN
                        go_loopg [] len (fun gk wr => RndL W P C0 D xa xb ni nk g0 g1 y0 y1 p gk wr)
                        case atStart => exact ⟨p, HLw.out, Round.start HLw.out.inv.inv, HLEN.out⟩
                        case round =>
                          obtain ⟨q, hq, hr, hlen⟩ := hrel
                          obtain ⟨N, d2, Ln, _, _⟩ := law_net hq
                          rw [hlen] at Ln
                          have LN := Lib.hid Ln
                          have HQ := Lib.hid (And.intro hq (And.intro hr hlen))
                          clear Ln hr hlen
                          rcases Nat.eq_zero_or_pos gk with hg0 | hgp
                          · subst hg0
                            have P0 := Lib.hid (law_post0 hq)
                            clear hq
                            go_wp2_with (first
                              | (go_at_call 7; (with_reducible refine LN.out.mono ?_); rintro e w3 ⟨rfl, rfl⟩)
                              | (go_at_call 8; (with_reducible refine P0.out.mono ?_); rintro e w4 ⟨⟨u4, rfl⟩, hL4⟩; have P1 := Lib.hid (law_post1 hL4); clear hL4)
                              | (go_at_call 8; (with_reducible refine P1.out.mono ?_); rintro e w5 ⟨⟨u5, rfl⟩, hL5⟩))
                            have HF := Lib.hid hL5
                            clear hL5
                            go_roundw
                            case rel => exact ⟨nn + 1, (q.post 0).post 1, by go_num, HF.out, .inr ⟨by omega, by omega, head_next hhd.out HQ.out.2.1 (List.eq_nil_of_length_eq_zero HQ.out.2.2)⟩⟩
                            case measure => simp [intOf] <;> omega
                          · have C2 := Lib.hid (law_comes0 hq (by have := HQ.out.2.2; omega))
                            have hgi : (0 : Int) < (gk : Int) := by omega
                            clear hq
                            go_wp2_with (first
                              | (go_at_call 7; (with_reducible refine LN.out.mono ?_); rintro e w3 ⟨rfl, rfl⟩)
                              | (go_at_call 9; (with_reducible refine C2.out.mono ?_); rintro e w4 ⟨⟨u4, rfl⟩, hL4⟩))
                            have HF := Lib.hid hL4
                            clear hL4
                            go_roundg (gk - 1)
                            case measure => omega
                            case rel =>
                              have hs := Round.step HLw.out.inv.inv HQ.out.2.1 (by have := HQ.out.2.2; omega)
                              exact ⟨_, HF.out, hs.1, by have := hs.2; have := HQ.out.2.2; omega⟩
end Go.Proofs.Yteajdkneiejlaaa

/- The bytes of octet and codec as plain lists, and that a number is read back. -/
namespace Hg

abbrev Bytes := List UInt8

/-- the number of base-256 digits -/
def nby (n : Nat) : Nat := if n = 0 then 0 else nby (n / 256) + 1
termination_by n
decreasing_by omega

/-- the last k base-256 digits of n, the greatest first -/
def be : Nat → Nat → Bytes
  | 0, _ => []
  | k + 1, n => UInt8.ofNat (n / 256 ^ k) :: be k n

def mag (x : Int) : Nat := if x < 0 then (-x - 1).toNat else x.toNat
def sgn (x : Int) : Nat := if x < 0 then 128 else 0

/-- octet.lay -/
def oct (x : Int) : Bytes := UInt8.ofNat (sgn x + nby (mag x)) :: be (nby (mag x)) (mag x)

theorem be_length (k n : Nat) : (be k n).length = k := by
  induction k with
  | zero => rfl
  | succ k ih => simp [be, ih]

def val (l : Bytes) : Nat := l.foldl (fun n c => n * 256 + c.toNat) 0

theorem foldl_val (l : Bytes) (a : Nat) : l.foldl (fun n c => n * 256 + c.toNat) a = a * 256 ^ l.length + val l := by
  induction l generalizing a with
  | nil => simp [val]
  | cons c l ih =>
    simp only [List.foldl_cons, List.length_cons, val]
    rw [ih, ih (0 * 256 + c.toNat)]
    simp only [Nat.pow_succ, Nat.zero_mul, Nat.zero_add, Nat.add_mul]
    rw [Nat.mul_assoc, Nat.mul_comm 256 (256 ^ l.length)]
    omega

theorem val_cons (c : UInt8) (l : Bytes) : val (c :: l) = c.toNat * 256 ^ l.length + val l := by
  have := foldl_val l (0 * 256 + c.toNat)
  simpa [val] using this

theorem val_be (k n : Nat) : val (be k n) = n % 256 ^ k := by
  induction k with
  | zero => simp [be, val, Nat.mod_one]
  | succ k ih =>
    rw [be, val_cons, ih, be_length]
    simp only [UInt8.toNat_ofNat', Nat.reducePow]
    rw [Nat.pow_succ, Nat.mod_mul, Nat.mul_comm (256 ^ k), Nat.add_comm]

theorem nby_zero : nby 0 = 0 := by unfold nby; simp
theorem nby_pos {n : Nat} (h : 0 < n) : nby n = nby (n / 256) + 1 := by rw [nby]; simp [Nat.ne_of_gt h]

theorem lt_pow_nby (n : Nat) : n < 256 ^ nby n := by
  induction n using Nat.strongRecOn with
  | ind n ih =>
    by_cases h : n = 0
    · subst h; simp [nby_zero]
    · rw [nby_pos (by omega), Nat.pow_succ]
      have := ih (n / 256) (by omega)
      omega

theorem pow_nby_le {n : Nat} (h : 0 < n) : 256 ^ (nby n - 1) ≤ n := by
  induction n using Nat.strongRecOn with
  | ind n ih =>
    rw [nby_pos h, Nat.add_sub_cancel]
    by_cases h2 : n / 256 = 0
    · rw [h2, nby_zero]; simp; omega
    · have := ih (n / 256) (by omega) (by omega)
      have e := nby_pos (n := n / 256) (by omega)
      rw [e, Nat.pow_succ]
      rw [e, Nat.add_sub_cancel] at this
      omega

theorem nby_le {n k : Nat} (h : n < 256 ^ k) : nby n ≤ k := by
  by_cases h0 : n = 0
  · subst h0; simp [nby_zero]
  · have h1 := pow_nby_le (n := n) (by omega)
    have h2 : 256 ^ (nby n - 1) < 256 ^ k := by omega
    have := (Nat.pow_lt_pow_iff_right (a := 256) (by omega)).1 h2
    omega

theorem val_be_nby (n : Nat) : val (be (nby n) n) = n := by
  rw [val_be, Nat.mod_eq_of_lt (lt_pow_nby n)]

/-- the first digit is not 0 -/
theorem be_head_ne {n : Nat} (h : 0 < n) : ∃ c l, be (nby n) n = c :: l ∧ c ≠ 0 ∧ l.length = nby n - 1 := by
  have e := nby_pos h
  refine ⟨UInt8.ofNat (n / 256 ^ (nby n - 1)), be (nby n - 1) n, ?_, ?_, ?_⟩
  · conv => lhs; rw [show nby n = (nby n - 1) + 1 by omega]
    rfl
  · intro hc
    have h1 := pow_nby_le h
    have h2 := lt_pow_nby n
    have h3 : n / 256 ^ (nby n - 1) < 256 := by
      rw [Nat.div_lt_iff_lt_mul (Nat.pow_pos (by omega))]
      rw [Nat.mul_comm, ← Nat.pow_succ, show (nby n - 1).succ = nby n by omega]; exact h2
    have h4 : 0 < n / 256 ^ (nby n - 1) := Nat.div_pos h1 (Nat.pow_pos (by omega))
    have := congrArg UInt8.toNat hc
    simp [UInt8.toNat_ofNat'] at this
    omega
  · exact be_length _ _
end Hg

/- Names, entities, commands and messages as plain data, what may be of them, and their bytes. -/
namespace Hg

structure ID where
  shard : Int
  index : Int
  gen : Int
  deriving DecidableEq, Repr, Inhabited

structure Bun where
  id : ID
  mask : Int
  x : Int
  y : Int
  vx : Int
  vy : Int
  hp : Int
  power : Int
  left : Int
  deriving DecidableEq, Repr, Inhabited

structure Cmd where
  kind : Int
  id : ID
  b : Bun
  mask : Int
  deriving DecidableEq, Repr, Inhabited

structure Msg where
  kind : Int
  t : Int
  n : Int
  cmds : List Cmd
  buns : List Bun
  ids : List ID
  deriving DecidableEq, Repr, Inhabited

def id0 : ID := ⟨0, 0, 0⟩
def bun0 : Bun := ⟨id0, 0, 0, 0, 0, 0, 0, 0, 0⟩
def cmd0 : Cmd := ⟨0, id0, bun0, 0⟩
def msg0 : Msg := ⟨0, 0, 0, [], [], []⟩

/-- has a mask the bit 2^k? -/
def bit (mask : Int) (k : Nat) : Bool := mask.toNat / 2 ^ k % 2 == 1

def within (has : Bool) (n lo hi : Int) : Bool := if has then decide (lo ≤ n) && decide (n ≤ hi) else n == 0

def chkID (i : ID) : Bool := within true i.shard 0 15 && within true i.index 0 15 && within true i.gen 0 1048575

def right (b : Bun) : Bool :=
  decide (0 ≤ b.mask) && decide (b.mask ≤ 31) &&
  within (bit b.mask 0) b.x (-1073741824) 1073741824 && within (bit b.mask 0) b.y (-1073741824) 1073741824 &&
  within (bit b.mask 1) b.vx (-1073741824) 1073741824 && within (bit b.mask 1) b.vy (-1073741824) 1073741824 &&
  within (bit b.mask 2) b.hp 1 1048576 && within (bit b.mask 3) b.power 0 1024 && within (bit b.mask 4) b.left 1 1048576

def chkBun (b : Bun) : Bool := right b && bit b.mask 0 && chkID b.id

def some' (mask : Int) : Bool := decide (0 < mask) && decide (mask ≤ 31) && !bit mask 0

def chkCmd (c : Cmd) : Bool :=
  if c.kind = 1 then c.id == id0 && c.mask == 0 && chkBun c.b
  else if c.kind = 3 then c.mask == 0 && c.b.id == id0 && some' c.b.mask && right c.b && chkID c.id
  else if c.kind = 4 then some' c.mask && c.b == bun0 && chkID c.id
  else if c.kind = 2 then c.mask == 0 && c.b == bun0 && chkID c.id
  else false

/-- which of t, n, cmds, buns, ids a kind of message has -/
def ofT (k : Int) : Bool := k == 1 || k == 2 || k == 3 || k == 5 || k == 6 || k == 11 || k == 4 || k == 12
def ofN (k : Int) : Bool := k == 7 || k == 8 || k == 9 || k == 10
def ofC (k : Int) : Bool := k == 1
def ofB (k : Int) : Bool := k == 7 || k == 12
def ofI (k : Int) : Bool := k == 4
def ofOk (k : Int) : Bool := decide (1 ≤ k) && decide (k ≤ 12)

def num (has : Bool) (n : Int) : Bool := if has then decide (1 ≤ n) && decide (n ≤ 1099511627776) else n == 0

def lst {α : Type} (has : Bool) (l : List α) (most : Nat) (chk : α → Bool) : Bool :=
  (has || l.isEmpty) && decide (l.length ≤ most) && l.all chk

def chkMsg (m : Msg) : Bool :=
  ofOk m.kind && num (ofT m.kind) m.t && num (ofN m.kind) m.n && lst (ofC m.kind) m.cmds 64 chkCmd && lst (ofB m.kind) m.buns 1024 chkBun && lst (ofI m.kind) m.ids 1024 chkID &&
  (!(m.kind == 7) || m.buns.length == 1)

/- the bytes -/
def eID (i : ID) : Bytes := oct i.shard ++ (oct i.index ++ oct i.gen)
def part (has : Bool) (l : Bytes) : Bytes := if has then l else []
def eParts (b : Bun) : Bytes :=
  oct b.mask ++ (part (bit b.mask 0) (oct b.x) ++ (part (bit b.mask 0) (oct b.y) ++ (part (bit b.mask 1) (oct b.vx) ++ (part (bit b.mask 1) (oct b.vy) ++
    (part (bit b.mask 2) (oct b.hp) ++ (part (bit b.mask 3) (oct b.power) ++ part (bit b.mask 4) (oct b.left)))))))
def eBun (b : Bun) : Bytes := eID b.id ++ eParts b
def eCmd (c : Cmd) : Bytes :=
  oct c.kind ++ (if c.kind = 1 then eBun c.b else if c.kind = 3 then eID c.id ++ eParts c.b else if c.kind = 4 then eID c.id ++ oct c.mask else eID c.id)
def eList {α : Type} (e : α → Bytes) (l : List α) : Bytes := oct l.length ++ l.flatMap e
def eMsg (m : Msg) : Bytes :=
  oct m.kind ++ (part (ofT m.kind) (oct m.t) ++ (part (ofN m.kind) (oct m.n) ++ (part (ofC m.kind) (eList eCmd m.cmds) ++ (part (ofB m.kind) (eList eBun m.buns) ++ part (ofI m.kind) (eList eID m.ids)))))

end Hg

/- Two ends of a channel and the net between them: what is kept by whatever happens, and that all comes over in the end. -/
namespace Hg

structure Chan (τ : Type) where
  mine : Int
  yours : Int
  first : Int
  wait : List τ
  last : Int
  met : Bool
  owes : Bool

structure Post (τ : Type) where
  mine : Int
  yours : Int
  ack : Int
  seq : Int
  text : Option τ

structure Pk (τ : Type) where
  frm : Int
  to : Int
  post : Post τ

variable {τ : Type}

def Chan.bare (c : Chan τ) : Post τ := ⟨c.mine, c.yours, c.last, 0, none⟩
def Chan.texts (c : Chan τ) : List (Post τ) :=
  if c.yours = 0 then [] else (c.wait.take 8).mapIdx fun i s => { c.bare with seq := c.first + i, text := some s }
def Chan.posts (c : Chan τ) : List (Post τ) :=
  if c.texts.isEmpty then (if c.owes then [c.bare] else []) ++ (if c.met then [] else [{ c.bare with yours := 0 }]) else c.texts
def Chan.posted (c : Chan τ) : Chan τ := { c with owes := false }

/-- what hearing makes of an end, if the post is not stale: ahead of the test for the own epoch -/
def Chan.meets (c : Chan τ) (p : Post τ) : Chan τ :=
  if c.yours < p.mine then ⟨c.mine, p.mine, 1, [], 0, false, false⟩ else c
def Chan.anew (c : Chan τ) (p : Post τ) : Bool := decide (c.yours < p.mine)
def Chan.acks (c : Chan τ) (p : Post τ) : Int := min (p.ack - c.first + 1) c.wait.length
def Chan.acked (c : Chan τ) (p : Post τ) : Chan τ :=
  if 0 < c.acks p then { c with wait := c.wait.drop (c.acks p).toNat, first := c.first + c.acks p } else c
def Chan.takes (c : Chan τ) (p : Post τ) : Bool := decide (0 < p.seq) && p.seq == c.last + 1
def Chan.hears (c : Chan τ) (p : Post τ) : Chan τ :=
  let c1 := c.meets p
  let c2 := { c1 with owes := c1.owes || c.anew p || decide (0 < p.seq) || p.yours != c1.mine }
  if p.yours = c2.mine then
    let c3 := ({ c2 with met := true } : Chan τ).acked p
    if c3.takes p then { c3 with last := c3.last + 1 } else c3
  else c2
def Chan.hearsText (c : Chan τ) (p : Post τ) : Option τ :=
  let c1 := c.meets p
  if p.yours = c1.mine then (if c1.takes p then p.text else none) else none

structure Pair (τ : Type) where
  e0 : Chan τ
  e1 : Chan τ
  net : List (Pk τ)
  h0 : List τ
  h1 : List τ

def Pair.e (p : Pair τ) (k : Int) : Chan τ := if k = 0 then p.e0 else p.e1
def Pair.h (p : Pair τ) (k : Int) : List τ := if k = 0 then p.h0 else p.h1
def Pair.setE (p : Pair τ) (k : Int) (c : Chan τ) : Pair τ := if k = 0 then { p with e0 := c } else { p with e1 := c }
def Pair.addH (p : Pair τ) (k : Int) (l : List τ) : Pair τ := if k = 0 then { p with h0 := p.h0 ++ l } else { p with h1 := p.h1 ++ l }

def sent (net : List (Pk τ)) (l : List (Pk τ)) : List (Pk τ) := net ++ l.take (4096 - net.length)

def Pair.post (p : Pair τ) (k : Int) : Pair τ :=
  { p.setE k (p.e k).posted with net := sent p.net ((p.e k).posts.map fun x => ⟨k, 1 - k, x⟩) }

def Pair.got (p : Pair τ) (x : Pk τ) : Pair τ :=
  (p.setE x.to ((p.e x.to).hears x.post)).addH x.to ((p.e x.to).hearsText x.post).toList

def Pair.comes (p : Pair τ) (j : Nat) : Pair τ :=
  match p.net[j]? with
  | none => p
  | some x => { p.got x with net := p.net.eraseIdx j }

def ep (k : Int) : Int := if k = 0 then 3 else 8

/-- of the one direction: sender c, receiver d, what was said and what was heard -/
structure Dir (c d : Chan τ) (k : Int) (said heard : List τ) : Prop where
  mine : c.mine = ep k
  yours : c.yours = ep (1 - k)
  met : c.met = true
  first : 1 ≤ c.first
  le1 : c.first - 1 ≤ d.last
  le2 : d.last ≤ said.length
  wait : c.wait = said.drop (c.first - 1).toNat
  heard : heard = said.take d.last.toNat

/-- a packet that k has sent -/
structure PkOk (x : Pk τ) (k : Int) (c : Chan τ) (said : List τ) : Prop where
  to : x.to = 1 - k
  mine : x.post.mine = ep k
  yours : x.post.yours = ep (1 - k)
  ack0 : 0 ≤ x.post.ack
  ack : x.post.ack ≤ c.last
  seq0 : 0 ≤ x.post.seq
  seq : x.post.seq ≤ said.length
  text : x.post.text = if x.post.seq = 0 then none else said[(x.post.seq - 1).toNat]?

structure PInv (p : Pair τ) (s0 s1 : List τ) : Prop where
  d0 : Dir p.e0 p.e1 0 s0 p.h1
  d1 : Dir p.e1 p.e0 1 s1 p.h0
  pk : ∀ x ∈ p.net, (x.frm = 0 ∧ PkOk x 0 p.e0 s0) ∨ (x.frm = 1 ∧ PkOk x 1 p.e1 s1)
  room : p.net.length ≤ 4096

theorem PkOk.mono {x : Pk τ} {k : Int} {c c' : Chan τ} {s s' : List τ} (h : PkOk x k c s) (hc : c.last ≤ c'.last) (hs : s <+: s') : PkOk x k c' s' := by
  have hl := hs.length_le
  refine ⟨h.to, h.mine, h.yours, h.ack0, by have := h.ack; omega, h.seq0, by have := h.seq; omega, ?_⟩
  rw [h.text]
  by_cases e : x.post.seq = 0
  · simp [e]
  · rw [if_neg e, if_neg e]
    have h1 := h.seq0; have h2 := h.seq
    obtain ⟨t, rfl⟩ := hs
    rw [List.getElem?_append_left (by omega)]

/- hearing -/
section hear
variable {c d : Chan τ} {k : Int} {said heard said' heard' : List τ} {x : Pk τ}

/-- what the receiver d of the direction k makes of a packet of k's: c is k's own end, d the other one, which itself says said' -/
theorem hears_eq (hm : x.post.mine = d.yours) (hy : x.post.yours = d.mine) :
    d.hears x.post = (let c3 := ({ d with owes := d.owes || decide (0 < x.post.seq), met := true } : Chan τ).acked x.post
      if c3.takes x.post then { c3 with last := c3.last + 1 } else c3) := by
  have h1 : d.meets x.post = d := by simp [Chan.meets, hm]
  have h2 : d.anew x.post = false := by simp [Chan.anew, hm]
  simp only [Chan.hears, h1, h2, hy, if_true, bne_self_eq_false, Bool.or_false]

theorem acked_last (e : Chan τ) (p : Post τ) : (e.acked p).last = e.last := by unfold Chan.acked; split <;> rfl
theorem acked_owes (e : Chan τ) (p : Post τ) : (e.acked p).owes = e.owes := by unfold Chan.acked; split <;> rfl
theorem acked_mine (e : Chan τ) (p : Post τ) : (e.acked p).mine = e.mine := by unfold Chan.acked; split <;> rfl
theorem acked_yours (e : Chan τ) (p : Post τ) : (e.acked p).yours = e.yours := by unfold Chan.acked; split <;> rfl
theorem acked_met (e : Chan τ) (p : Post τ) : (e.acked p).met = e.met := by unfold Chan.acked; split <;> rfl

structure Heard (c d d' : Chan τ) (x : Pk τ) (heard' : List τ) (said said' heard : List τ) (k : Int) : Prop where
  dir : Dir c d' k said heard'
  back : Dir d' c (1 - k) said' heard
  mono : d.last ≤ d'.last
  first : d.first ≤ d'.first
  ackd : x.post.ack ≤ d'.first - 1
  owes : d'.owes = (d.owes || decide (0 < x.post.seq))
  came : x.post.seq = d.last + 1 → 0 < x.post.seq → d'.last = d.last + 1

theorem hear_dir (h : Dir c d k said heard') (g : Dir d c (1 - k) said' heard) (hx : PkOk x k c said) :
    Heard c d (d.hears x.post) x (heard' ++ (d.hearsText x.post).toList) said said' heard k := by
  have hkk : 1 - (1 - k) = k := by omega
  have hm : x.post.mine = d.yours := by rw [hx.mine, g.yours, hkk]
  have hy : x.post.yours = d.mine := by rw [hx.yours, g.mine]
  have h1 : d.meets x.post = d := by simp [Chan.meets, hm]
  rw [hears_eq hm hy]
  -- the acknowledgement
  generalize ho : (d.owes || decide (0 < x.post.seq)) = ow
  let d2 : Chan τ := { d with owes := ow, met := true }
  have hwl : (d.wait.length : Int) = said'.length - (d.first - 1) := by
    have h1 := g.wait; have h2 := g.le1; have h3 := g.le2; have h4 := g.first
    rw [h1, List.length_drop]; omega
  have hack : x.post.ack ≤ said'.length := by have := hx.ack; have := g.le2; omega
  have hn : d2.acks x.post = x.post.ack - d.first + 1 := by
    show min (x.post.ack - d.first + 1) (d.wait.length : Int) = _
    omega
  have ha : Dir (d2.acked x.post) c (1 - k) said' heard ∧ d.first ≤ (d2.acked x.post).first ∧ x.post.ack ≤ (d2.acked x.post).first - 1 := by
    unfold Chan.acked
    split
    · rename_i hp
      rw [hn] at hp ⊢
      refine ⟨⟨g.mine, g.yours, rfl, ?_, ?_, g.le2, ?_, g.heard⟩, ?_, ?_⟩
      · show 1 ≤ d.first + _; have := g.first; omega
      · show d.first + _ - 1 ≤ _; have := hx.ack; omega
      · show d.wait.drop _ = _
        rw [g.wait, List.drop_drop]
        congr 1
        show (d.first - 1).toNat + _ = (d.first + _ - 1).toNat
        have := g.first; omega
      · show d.first ≤ d.first + _; omega
      · show _ ≤ d.first + _ - 1; omega
    · rename_i hp
      rw [hn] at hp
      exact ⟨⟨g.mine, g.yours, rfl, g.first, g.le1, g.le2, g.wait, g.heard⟩, Int.le_refl _, by show _ ≤ d.first - 1; omega⟩
  obtain ⟨ha1, ha2, ha3⟩ := ha
  have hl : (d2.acked x.post).last = d.last := acked_last _ _
  have ho2 : (d2.acked x.post).owes = ow := acked_owes _ _
  have ht : (d2.acked x.post).takes x.post = d.takes x.post := by simp [Chan.takes, hl]
  show Heard c d (if (d2.acked x.post).takes x.post then { d2.acked x.post with last := (d2.acked x.post).last + 1 } else d2.acked x.post) x _ said said' heard k
  have htx : d.hearsText x.post = if d.takes x.post then x.post.text else none := by
    simp [Chan.hearsText, h1, hy]
  rw [htx, ht]
  by_cases hT : d.takes x.post = true
  · rw [hT]
    simp only [if_true]
    have hT2 : 0 < x.post.seq ∧ x.post.seq = d.last + 1 := by simpa [Chan.takes] using hT
    obtain ⟨t1, t2⟩ := hT2
    have hle := hx.seq
    have hlast0 : 0 ≤ d.last := by have := h.le1; have := h.first; omega
    have htext : x.post.text = said[d.last.toNat]? := by
      rw [hx.text, if_neg (by omega), t2]; congr 1; omega
    refine ⟨⟨h.mine, h.yours, h.met, h.first, ?_, ?_, h.wait, ?_⟩, ⟨ha1.mine, ha1.yours, ha1.met, ha1.first, ha1.le1, ha1.le2, ha1.wait, ha1.heard⟩, ?_, ha2, ha3, ?_, ?_⟩
    · show _ ≤ (d2.acked x.post).last + 1; have := h.le1; omega
    · show (d2.acked x.post).last + 1 ≤ _; omega
    · show _ = said.take ((d2.acked x.post).last + 1).toNat
      rw [hl, show (d.last + 1).toNat = d.last.toNat + 1 by omega, List.take_add_one, htext, ← h.heard]
    · show d.last ≤ (d2.acked x.post).last + 1; omega
    · show (d2.acked x.post).owes = _; rw [ho2, ← ho]
    · intro _ _; show (d2.acked x.post).last + 1 = _; omega
  · rw [Bool.not_eq_true] at hT
    rw [hT]
    simp only [Bool.false_eq_true, if_false, Option.toList, List.append_nil]
    refine ⟨⟨h.mine, h.yours, h.met, h.first, by rw [hl]; exact h.le1, by rw [hl]; exact h.le2, h.wait, by rw [hl]; exact h.heard⟩, ha1, by omega, ha2, ha3, by rw [ho2, ← ho], ?_⟩
    intro e1 e2
    simp [Chan.takes, e2] at hT
    exact absurd e1 hT
end hear

end Hg

/- What is kept of two ends and the net by a post, a packet that comes, is lost, is doubled, and by what is said. -/
namespace Hg
variable {τ : Type}

theorem Dir.noText {c d : Chan τ} {k : Int} {s h : List τ} (g : Dir c d k s h) : c.yours ≠ 0 := by
  rw [g.yours]; unfold ep; split <;> omega

theorem texts_eq {c d : Chan τ} {k : Int} {s h : List τ} (g : Dir c d k s h) :
    c.texts = (c.wait.take 8).mapIdx fun i s => { c.bare with seq := c.first + i, text := some s } := by
  unfold Chan.texts; rw [if_neg g.noText]

/-- each post of an end is one that may be on its way -/
theorem posts_ok {c d : Chan τ} {k : Int} {s h h' s' : List τ} (g : Dir c d k s h) (b : Dir d c (1 - k) s' h') :
    ∀ x ∈ c.posts, PkOk ⟨k, 1 - k, x⟩ k c s := by
  have hl0 : 0 ≤ c.last := by have := b.le1; have := b.first; omega
  have hbare : PkOk ⟨k, 1 - k, c.bare⟩ k c s := ⟨rfl, g.mine, g.yours, hl0, Int.le_refl _, Int.le_refl _, by show (0 : Int) ≤ _; omega, by simp [Chan.bare]⟩
  intro x hx
  unfold Chan.posts at hx
  split at hx
  · rw [g.met] at hx
    simp only [if_true, List.append_nil] at hx
    split at hx
    · simp only [List.mem_singleton] at hx; subst hx; exact hbare
    · simp at hx
  · rw [texts_eq g] at hx
    obtain ⟨i, hi, rfl⟩ := List.mem_mapIdx.1 hx
    simp only [List.length_take] at hi
    have hw := g.wait
    have hf := g.first
    have hwl : c.wait.length = s.length - (c.first - 1).toNat := by rw [hw, List.length_drop]
    refine ⟨rfl, g.mine, g.yours, hl0, Int.le_refl _, ?_, ?_, ?_⟩
    · show 0 ≤ c.first + (i : Int); omega
    · show c.first + (i : Int) ≤ _; omega
    · show some _ = if c.first + (i : Int) = 0 then none else s[(c.first + (i : Int) - 1).toNat]?
      rw [if_neg (by omega), List.getElem_take]
      have e : (c.first + (i : Int) - 1).toNat = (c.first - 1).toNat + i := by omega
      rw [e, ← List.getElem?_drop, ← hw, List.getElem?_eq_getElem (by omega)]

theorem Dir.posted_l {c d : Chan τ} {k : Int} {s h : List τ} (g : Dir c d k s h) : Dir c.posted d k s h :=
  ⟨g.mine, g.yours, g.met, g.first, g.le1, g.le2, g.wait, g.heard⟩
theorem Dir.posted_r {c d : Chan τ} {k : Int} {s h : List τ} (g : Dir c d k s h) : Dir c d.posted k s h :=
  ⟨g.mine, g.yours, g.met, g.first, g.le1, g.le2, g.wait, g.heard⟩

theorem sent_mem {net l : List (Pk τ)} {x : Pk τ} (h : x ∈ sent net l) : x ∈ net ∨ x ∈ l := by
  unfold sent at h
  rcases List.mem_append.1 h with h | h
  · exact .inl h
  · exact .inr (List.mem_of_mem_take h)

theorem sent_room {net l : List (Pk τ)} (h : net.length ≤ 4096) : (sent net l).length ≤ 4096 := by
  unfold sent; simp only [List.length_append, List.length_take]; omega

theorem PkOk.posted {x : Pk τ} {k : Int} {c : Chan τ} {s : List τ} (h : PkOk x k c s) : PkOk x k c.posted s := h.mono (Int.le_refl _) (List.prefix_refl _)

theorem PInv.post0 {p : Pair τ} {s0 s1 : List τ} (h : PInv p s0 s1) : PInv (p.post 0) s0 s1 := by
  have e : p.post 0 = { p with e0 := p.e0.posted, net := sent p.net (p.e0.posts.map fun x => ⟨0, 1 - 0, x⟩) } := rfl
  rw [e]
  refine ⟨h.d0.posted_l, h.d1.posted_r, ?_, sent_room h.room⟩
  intro x hx
  rcases sent_mem hx with hx | hx
  · rcases h.pk x hx with ⟨f, hp⟩ | ⟨f, hp⟩
    · exact .inl ⟨f, hp.posted⟩
    · exact .inr ⟨f, hp⟩
  · obtain ⟨q, hq, rfl⟩ := List.mem_map.1 hx
    exact .inl ⟨rfl, (posts_ok h.d0 h.d1 q hq).posted⟩

theorem PInv.post1 {p : Pair τ} {s0 s1 : List τ} (h : PInv p s0 s1) : PInv (p.post 1) s0 s1 := by
  have e : p.post 1 = { p with e1 := p.e1.posted, net := sent p.net (p.e1.posts.map fun x => ⟨1, 1 - 1, x⟩) } := rfl
  rw [e]
  refine ⟨h.d0.posted_r, h.d1.posted_l, ?_, sent_room h.room⟩
  intro x hx
  rcases sent_mem hx with hx | hx
  · rcases h.pk x hx with ⟨f, hp⟩ | ⟨f, hp⟩
    · exact .inl ⟨f, hp⟩
    · exact .inr ⟨f, hp.posted⟩
  · obtain ⟨q, hq, rfl⟩ := List.mem_map.1 hx
    exact .inr ⟨rfl, (posts_ok h.d1 h.d0 q hq).posted⟩

theorem PInv.post {p : Pair τ} {s0 s1 : List τ} (h : PInv p s0 s1) (k : Int) (hk : k = 0 ∨ k = 1) : PInv (p.post k) s0 s1 := by
  rcases hk with rfl | rfl
  · exact h.post0
  · exact h.post1

theorem PInv.sub {p : Pair τ} {s0 s1 : List τ} (h : PInv p s0 s1) (net : List (Pk τ)) (hn : ∀ x ∈ net, x ∈ p.net) (hl : net.length ≤ 4096) : PInv { p with net := net } s0 s1 :=
  ⟨h.d0, h.d1, fun x hx => h.pk x (hn x hx), hl⟩

/-- a packet that comes to end 1 -/
theorem PInv.got1 {p : Pair τ} {s0 s1 : List τ} (h : PInv p s0 s1) {x : Pk τ} (ht : x.to = 1) (hx : PkOk x 0 p.e0 s0) : PInv (p.got x) s0 s1 := by
  have H := hear_dir h.d0 h.d1 hx
  have e : p.got x = { p with e1 := p.e1.hears x.post, h1 := p.h1 ++ (p.e1.hearsText x.post).toList } := by
    simp [Pair.got, Pair.setE, Pair.addH, Pair.e, ht]
  rw [e]
  refine ⟨H.dir, H.back, fun y hy => ?_, h.room⟩
  rcases h.pk y hy with ⟨f, hp⟩ | ⟨f, hp⟩
  · exact .inl ⟨f, hp⟩
  · exact .inr ⟨f, hp.mono H.mono (List.prefix_refl _)⟩

theorem PInv.got0 {p : Pair τ} {s0 s1 : List τ} (h : PInv p s0 s1) {x : Pk τ} (ht : x.to = 0) (hx : PkOk x 1 p.e1 s1) : PInv (p.got x) s0 s1 := by
  have H := hear_dir h.d1 h.d0 hx
  have e : p.got x = { p with e0 := p.e0.hears x.post, h0 := p.h0 ++ (p.e0.hearsText x.post).toList } := by
    simp [Pair.got, Pair.setE, Pair.addH, Pair.e, ht]
  rw [e]
  refine ⟨H.back, H.dir, fun y hy => ?_, h.room⟩
  rcases h.pk y hy with ⟨f, hp⟩ | ⟨f, hp⟩
  · exact .inl ⟨f, hp.mono H.mono (List.prefix_refl _)⟩
  · exact .inr ⟨f, hp⟩

theorem PInv.got {p : Pair τ} {s0 s1 : List τ} (h : PInv p s0 s1) {x : Pk τ} (hx : x ∈ p.net) : PInv (p.got x) s0 s1 := by
  rcases h.pk x hx with ⟨_, hp⟩ | ⟨_, hp⟩
  · exact h.got1 (by rw [hp.to]; rfl) hp
  · exact h.got0 (by rw [hp.to]; rfl) hp

theorem got_net (p : Pair τ) (x : Pk τ) : (p.got x).net = p.net := by
  unfold Pair.got Pair.addH Pair.setE; by_cases h : x.to = 0 <;> simp [h]

theorem PInv.comes {p : Pair τ} {s0 s1 : List τ} (h : PInv p s0 s1) (j : Nat) : PInv (p.comes j) s0 s1 := by
  unfold Pair.comes
  split
  · exact h
  · rename_i x hx
    have hm : x ∈ p.net := List.mem_of_getElem? hx
    refine (h.got hm).sub (p.net.eraseIdx j) (fun y hy => ?_) ?_
    · rw [got_net]; exact List.mem_of_mem_eraseIdx hy
    · have := h.room; have := List.length_eraseIdx_le p.net j; omega

theorem PInv.drop {p : Pair τ} {s0 s1 : List τ} (h : PInv p s0 s1) (j : Nat) : PInv { p with net := p.net.eraseIdx j } s0 s1 :=
  h.sub _ (fun _ hy => List.mem_of_mem_eraseIdx hy) (by have := h.room; have := List.length_eraseIdx_le p.net j; omega)

theorem PInv.double {p : Pair τ} {s0 s1 : List τ} (h : PInv p s0 s1) {x : Pk τ} (hx : x ∈ p.net) (hl : p.net.length < 4096) : PInv { p with net := p.net ++ [x] } s0 s1 :=
  h.sub _ (fun y hy => by rcases List.mem_append.1 hy with hy | hy; exact hy; simp at hy; subst hy; exact hx) (by simp; omega)

/-- what is said waits behind the others -/
theorem Dir.say {c d : Chan τ} {k : Int} {s h : List τ} (g : Dir c d k s h) (t : τ) : Dir { c with wait := c.wait ++ [t] } d k (s ++ [t]) h := by
  have h1 := g.first; have h2 := g.le1; have h3 := g.le2
  refine ⟨g.mine, g.yours, g.met, g.first, g.le1, by simp; omega, ?_, ?_⟩
  · show c.wait ++ [t] = (s ++ [t]).drop (c.first - 1).toNat
    rw [List.drop_append_of_le_length (by omega), ← g.wait]
  · rw [g.heard, List.take_append_of_le_length (by omega)]

theorem Dir.waits {c d : Chan τ} {k : Int} {s h : List τ} (g : Dir c d k s h) (w : List τ) (f : Int) : Dir c { d with wait := w, first := f } k s h :=
  ⟨g.mine, g.yours, g.met, g.first, g.le1, g.le2, g.wait, g.heard⟩

theorem PInv.say0 {p : Pair τ} {s0 s1 : List τ} (h : PInv p s0 s1) (t : τ) : PInv { p with e0 := { p.e0 with wait := p.e0.wait ++ [t] } } (s0 ++ [t]) s1 :=
  ⟨h.d0.say t, h.d1.waits _ _, fun x hx => by
    rcases h.pk x hx with ⟨f, hp⟩ | ⟨f, hp⟩
    · exact .inl ⟨f, hp.mono (Int.le_refl _) (List.prefix_append _ _)⟩
    · exact .inr ⟨f, hp⟩, h.room⟩
theorem PInv.say1 {p : Pair τ} {s0 s1 : List τ} (h : PInv p s0 s1) (t : τ) : PInv { p with e1 := { p.e1 with wait := p.e1.wait ++ [t] } } s0 (s1 ++ [t]) :=
  ⟨h.d0.waits _ _, h.d1.say t, fun x hx => by
    rcases h.pk x hx with ⟨f, hp⟩ | ⟨f, hp⟩
    · exact .inl ⟨f, hp⟩
    · exact .inr ⟨f, hp.mono (Int.le_refl _) (List.prefix_append _ _)⟩, h.room⟩

end Hg

/- All comes over in the end: what a round in which all packets come, and both ends post, leaves. -/
namespace Hg
variable {τ : Type}

theorem posts_len {c d : Chan τ} {k : Int} {s h : List τ} (g : Dir c d k s h) : c.posts.length ≤ 8 := by
  unfold Chan.posts
  rw [g.met]
  split
  · simp only [if_true, List.append_nil]; split <;> simp
  · rw [texts_eq g]; simp; omega

theorem posts_ack {c d : Chan τ} {k : Int} {s h : List τ} (g : Dir c d k s h) : ∀ x ∈ c.posts, x.ack = c.last := by
  intro x hx
  unfold Chan.posts at hx
  rw [g.met] at hx
  split at hx
  · simp only [if_true, List.append_nil] at hx
    split at hx
    · simp only [List.mem_singleton] at hx; subst hx; rfl
    · simp at hx
  · rw [texts_eq g] at hx
    obtain ⟨i, hi, rfl⟩ := List.mem_mapIdx.1 hx
    rfl

theorem texts_cons {c d : Chan τ} {k : Int} {s h : List τ} (g : Dir c d k s h) {t : τ} {l : List τ} (hw : c.wait = t :: l) :
    { c.bare with seq := c.first, text := some t } ∈ c.texts := by
  rw [texts_eq g, hw]
  simp [List.mapIdx_cons]

theorem posts_first {c d : Chan τ} {k : Int} {s h : List τ} (g : Dir c d k s h) (hw : c.wait ≠ []) : ∃ x ∈ c.posts, x.seq = c.first := by
  cases e : c.wait with
  | nil => exact absurd e hw
  | cons t l =>
    have hm := texts_cons g e
    unfold Chan.posts
    have : c.texts.isEmpty = false := by
      cases h : c.texts with
      | nil => rw [h] at hm; simp at hm
      | cons _ _ => rfl
    rw [this]
    exact ⟨_, hm, rfl⟩

theorem posts_some {c d : Chan τ} {k : Int} {s h : List τ} (g : Dir c d k s h) (ho : c.owes = true) : ∃ x ∈ c.posts, x.ack = c.last := by
  have : c.posts ≠ [] := by
    unfold Chan.posts
    split
    · simp
    · rename_i h; intro e; rw [e] at h; simp at h
  cases e : c.posts with
  | nil => exact absurd e this
  | cons x l => exact ⟨x, by simp, posts_ack g x (by rw [e]; simp)⟩

theorem texts_nil {c d : Chan τ} {k : Int} {s h : List τ} (g : Dir c d k s h) (hw : c.wait = []) : c.texts = [] := by
  rw [texts_eq g, hw]; rfl

theorem posts_quiet {c d : Chan τ} {k : Int} {s h : List τ} (g : Dir c d k s h) (hw : c.wait = []) : ∀ x ∈ c.posts, x.seq = 0 := by
  intro x hx
  unfold Chan.posts at hx
  rw [texts_nil g hw, g.met] at hx
  simp only [List.isEmpty_nil, if_true, List.append_nil] at hx
  split at hx
  · simp only [List.mem_singleton] at hx; subst hx; rfl
  · simp at hx

theorem posts_none {c d : Chan τ} {k : Int} {s h : List τ} (g : Dir c d k s h) (hw : c.wait = []) (ho : c.owes = false) : c.posts = [] := by
  unfold Chan.posts
  rw [texts_nil g hw, g.met, ho]; rfl

/-- what is left to be acknowledged -/
def left (c : Chan τ) (s : List τ) : Int := s.length - (c.first - 1)

theorem wait_nil {c d : Chan τ} {k : Int} {s h : List τ} (g : Dir c d k s h) : c.wait = [] ↔ left c s = 0 := by
  have h1 := g.first; have h2 := g.le1; have h3 := g.le2
  rw [g.wait, List.drop_eq_nil_iff, left]; omega

theorem left_nonneg {c d : Chan τ} {k : Int} {s h : List τ} (g : Dir c d k s h) : 0 ≤ left c s := by
  have h2 := g.le1; have h3 := g.le2
  unfold left; omega

/-- a packet has come to d; c0: its sender's end as the round began -/
def Came (c0 d : Chan τ) (x : Pk τ) : Prop :=
  x.post.ack ≤ d.first - 1 ∧ (0 < x.post.seq → d.owes = true ∧ (x.post.seq = c0.first → x.post.seq ≤ d.last))

/-- d' is d, later on -/
structure Later (d d' : Chan τ) : Prop where
  f : d.first ≤ d'.first
  l : d.last ≤ d'.last
  o : d.owes = true → d'.owes = true

theorem Later.refl (d : Chan τ) : Later d d := ⟨Int.le_refl _, Int.le_refl _, id⟩
theorem Later.trans {a b c : Chan τ} (h : Later a b) (g : Later b c) : Later a c := ⟨Int.le_trans h.f g.f, Int.le_trans h.l g.l, fun x => g.o (h.o x)⟩
theorem Came.later {c0 d d' : Chan τ} {x : Pk τ} (h : Came c0 d x) (g : Later d d') : Came c0 d' x := by
  have := g.f; have := g.l
  exact ⟨by have := h.1; omega, fun hs => ⟨g.o (h.2 hs).1, fun hq => by have := (h.2 hs).2 hq; omega⟩⟩

theorem Heard.later {c d d' : Chan τ} {x : Pk τ} {h' s s' h : List τ} {k : Int} (H : Heard c d d' x h' s s' h k) : Later d d' :=
  ⟨H.first, H.mono, fun o => by rw [H.owes, o]; rfl⟩
theorem Heard.came' {c d d' c0 : Chan τ} {x : Pk τ} {h' s s' h : List τ} {k : Int} (H : Heard c d d' x h' s s' h k) (hc : c0.first - 1 ≤ d.last) : Came c0 d' x := by
  refine ⟨H.ackd, fun hs => ⟨by rw [H.owes]; simp [hs], fun hq => ?_⟩⟩
  have h3 := H.mono
  by_cases hc : x.post.seq = d.last + 1
  · rw [H.came hc hs]; omega
  · omega

/-- in the midst of a round in which all that p0 has comes -/
structure Round (p0 p : Pair τ) (s0 s1 : List τ) : Prop where
  inv : PInv p s0 s1
  net : ∃ pre, p0.net = pre ++ p.net ∧ ∀ x ∈ pre, (x.frm = 0 → Came p0.e0 p.e1 x) ∧ (x.frm = 1 → Came p0.e1 p.e0 x)
  t0 : Later p0.e0 p.e0
  t1 : Later p0.e1 p.e1
  o0 : p.e0.owes = true → p0.e0.owes = true ∨ ∃ x ∈ p0.net, x.frm = 1 ∧ 0 < x.post.seq
  o1 : p.e1.owes = true → p0.e1.owes = true ∨ ∃ x ∈ p0.net, x.frm = 0 ∧ 0 < x.post.seq

theorem Round.start {p : Pair τ} {s0 s1 : List τ} (h : PInv p s0 s1) : Round p p s0 s1 :=
  ⟨h, ⟨[], rfl, by simp⟩, .refl _, .refl _, .inl, .inl⟩

/-- the first packet comes -/
theorem Round.step {p0 p : Pair τ} {s0 s1 : List τ} (h0 : PInv p0 s0 s1) (r : Round p0 p s0 s1) (hl : 0 < p.net.length) : Round p0 (p.comes 0) s0 s1 ∧ (p.comes 0).net.length + 1 = p.net.length := by
  have hinv := r.inv.comes 0
  cases hn : p.net with
  | nil => rw [hn] at hl; simp at hl
  | cons x rest =>
    have hx : x ∈ p.net := by rw [hn]; simp
    have hc : p.comes 0 = { p.got x with net := rest } := by
      unfold Pair.comes; rw [hn]; rfl
    rw [hc] at hinv ⊢
    refine ⟨?_, by simp⟩
    obtain ⟨pre, hpre, hcame⟩ := r.net
    have hx0 : x ∈ p0.net := by rw [hpre, hn]; simp
    rcases r.inv.pk x hx with ⟨hf, hp⟩ | ⟨hf, hp⟩
    · have ht : x.to = 1 := by rw [hp.to]; rfl
      have H := hear_dir r.inv.d0 r.inv.d1 hp
      have e : p.got x = { p with e1 := p.e1.hears x.post, h1 := p.h1 ++ (p.e1.hearsText x.post).toList } := by
        simp [Pair.got, Pair.setE, Pair.addH, Pair.e, ht]
      rw [e] at hinv ⊢
      refine ⟨hinv, ⟨pre ++ [x], by rw [hpre, hn]; simp, fun y hy => ?_⟩, r.t0, r.t1.trans H.later, r.o0, fun ho => ?_⟩
      · rcases List.mem_append.1 hy with hy | hy
        · exact ⟨fun h => ((hcame y hy).1 h).later H.later, (hcame y hy).2⟩
        · simp only [List.mem_singleton] at hy; subst hy
          refine ⟨fun _ => H.came' ?_, fun h => by omega⟩
          have := h0.d0.le1; have := r.t1.l; omega
      · have ho' : (p.e1.hears x.post).owes = true := ho
        rw [H.owes] at ho'
        simp only [Bool.or_eq_true, decide_eq_true_eq] at ho'
        rcases ho' with ho' | ho'
        · exact r.o1 ho'
        · exact .inr ⟨x, hx0, hf, ho'⟩
    · have ht : x.to = 0 := by rw [hp.to]; rfl
      have H := hear_dir r.inv.d1 r.inv.d0 hp
      have e : p.got x = { p with e0 := p.e0.hears x.post, h0 := p.h0 ++ (p.e0.hearsText x.post).toList } := by
        simp [Pair.got, Pair.setE, Pair.addH, Pair.e, ht]
      rw [e] at hinv ⊢
      refine ⟨hinv, ⟨pre ++ [x], by rw [hpre, hn]; simp, fun y hy => ?_⟩, r.t0.trans H.later, r.t1, fun ho => ?_, r.o1⟩
      · rcases List.mem_append.1 hy with hy | hy
        · exact ⟨(hcame y hy).1, fun h => ((hcame y hy).2 h).later H.later⟩
        · simp only [List.mem_singleton] at hy; subst hy
          refine ⟨fun h => by omega, fun _ => H.came' ?_⟩
          have := h0.d1.le1; have := r.t0.l; omega
      · have ho' : (p.e0.hears x.post).owes = true := ho
        rw [H.owes] at ho'
        simp only [Bool.or_eq_true, decide_eq_true_eq] at ho'
        rcases ho' with ho' | ho'
        · exact r.o0 ho'
        · exact .inr ⟨x, hx0, hf, ho'⟩

/-- of one direction, as a round has been posted: what the net must have -/
structure HeadDir (net : List (Pk τ)) (k : Int) (c : Chan τ) (s : List τ) (n : Int) : Prop where
  first : 0 < left c s → ∃ x ∈ net, x.frm = k ∧ x.post.seq = c.first
  quiet : left c s = 0 → ∀ x ∈ net, x.frm = k → x.post.seq = 0
  fuel : left c s = 0 ∨ 2 * left c s + 1 + n ≤ 2050 ∨ (2 * left c s + n ≤ 2050 ∧ ∃ x ∈ net, x.frm = 1 - k ∧ c.first ≤ x.post.ack)

structure Head (p : Pair τ) (s0 s1 : List τ) (n : Int) : Prop where
  inv : PInv p s0 s1
  o0 : p.e0.owes = false
  o1 : p.e1.owes = false
  d0 : HeadDir p.net 0 p.e0 s0 n
  d1 : HeadDir p.net 1 p.e1 s1 n
  fuel : p.net = [] ∨ n ≤ 2051

/-- how the one direction goes on -/
theorem headDir_next {c d c' d' : Chan τ} {k n : Int} {s s' h h' h'' : List τ} {net netq : List (Pk τ)}
    (hd : Dir c d k s h) (hd' : Dir c' d' k s h') (hb' : Dir d' c' (1 - k) s' h'') (t : Later c c')
    (hh : HeadDir net k c s n)
    (hcame0 : ∀ x ∈ net, x.frm = k → Came c d' x)
    (hcame1 : ∀ x ∈ net, x.frm = 1 - k → x.post.ack ≤ c'.first - 1)
    (hq1 : ∀ x ∈ netq, x.frm = k → ∃ y ∈ c'.posts, x.post = y)
    (hq2 : ∀ y ∈ c'.posts, ∃ x ∈ netq, x.frm = k ∧ x.post = y)
    (hq3 : ∀ y ∈ d'.posts, ∃ x ∈ netq, x.frm = 1 - k ∧ x.post = y) : HeadDir netq k c' s (n + 1) := by
  have hU := left_nonneg hd'
  have ht := t.f
  refine ⟨fun hp => ?_, fun hz x hx hf => ?_, ?_⟩
  · have hw : c'.wait ≠ [] := fun e => by have := (wait_nil hd').1 e; omega
    obtain ⟨y, hy, e⟩ := posts_first hd' hw
    obtain ⟨x, hx, hf, e2⟩ := hq2 y hy
    exact ⟨x, hx, hf, by rw [e2, e]⟩
  · obtain ⟨y, hy, e⟩ := hq1 x hx hf
    rw [e]; exact posts_quiet hd' ((wait_nil hd').2 hz) y hy
  · by_cases hz : left c' s = 0
    · exact .inl hz
    · have hz0 : 0 < left c s := by unfold left at *; omega
      rcases Int.lt_or_le (left c' s) (left c s) with hlt | hle
      · right; left
        rcases hh.fuel with hf | hf | ⟨hf, _⟩ <;> omega
      · have heq : c'.first = c.first := by unfold left at *; omega
        have heq2 : left c' s = left c s := by unfold left; rw [heq]
        have hnb : ¬ ∃ x ∈ net, x.frm = 1 - k ∧ c.first ≤ x.post.ack := by
          rintro ⟨x, hx, hf, ha⟩
          have := hcame1 x hx hf; omega
        right; right
        obtain ⟨x, hx, hf, hs⟩ := hh.first hz0
        have hC := hcame0 x hx hf
        have hs0 : 0 < x.post.seq := by have := hd.first; omega
        have hlast := (hC.2 hs0).2 hs
        obtain ⟨y, hy, ha⟩ := posts_some hb' (hC.2 hs0).1
        obtain ⟨z, hz', hfz, ez⟩ := hq3 y hy
        refine ⟨?_, z, hz', hfz, by rw [ez, ha]; omega⟩
        rcases hh.fuel with hf | hf | ⟨hf, hx⟩
        · omega
        · omega
        · exact absurd hx hnb

/-- the two posts at a round's end, the net being empty -/
theorem two_posts {q : Pair τ} {s0 s1 : List τ} (h : PInv q s0 s1) (hn : q.net = []) :
    ((q.post 0).post 1).net = (q.e0.posts.map fun x => ⟨0, 1, x⟩) ++ (q.e1.posts.map fun x => ⟨1, 0, x⟩) := by
  have l0 := posts_len h.d0
  have l1 := posts_len h.d1
  show sent (sent q.net (q.e0.posts.map fun x => ⟨0, 1 - 0, x⟩)) (q.e1.posts.map fun x => ⟨1, 1 - 1, x⟩) = _
  rw [hn]
  unfold sent
  rw [List.take_of_length_le (by simp; omega), List.take_of_length_le (by simp; omega)]
  rfl

theorem two_posts_e0 (q : Pair τ) : ((q.post 0).post 1).e0 = q.e0.posted := rfl
theorem two_posts_e1 (q : Pair τ) : ((q.post 0).post 1).e1 = q.e1.posted := rfl

theorem two_nets {q : Pair τ} {s0 s1 : List τ} (h : PInv q s0 s1) (hn : q.net = []) :
    (∀ x ∈ ((q.post 0).post 1).net, x.frm = 0 → ∃ y ∈ q.e0.posts, x.post = y) ∧ (∀ x ∈ ((q.post 0).post 1).net, x.frm = 1 → ∃ y ∈ q.e1.posts, x.post = y) ∧
    (∀ y ∈ q.e0.posts, ∃ x ∈ ((q.post 0).post 1).net, x.frm = 0 ∧ x.post = y) ∧ (∀ y ∈ q.e1.posts, ∃ x ∈ ((q.post 0).post 1).net, x.frm = 1 ∧ x.post = y) := by
  rw [two_posts h hn]
  refine ⟨fun x hx hf => ?_, fun x hx hf => ?_, fun y hy => ⟨⟨0, 1, y⟩, by simp [hy], rfl, rfl⟩, fun y hy => ⟨⟨1, 0, y⟩, by simp [hy], rfl, rfl⟩⟩
  · rcases List.mem_append.1 hx with hx | hx
    · obtain ⟨y, hy, rfl⟩ := List.mem_map.1 hx; exact ⟨y, hy, rfl⟩
    · obtain ⟨y, hy, rfl⟩ := List.mem_map.1 hx; simp at hf
  · rcases List.mem_append.1 hx with hx | hx
    · obtain ⟨y, hy, rfl⟩ := List.mem_map.1 hx; simp at hf
    · obtain ⟨y, hy, rfl⟩ := List.mem_map.1 hx; exact ⟨y, hy, rfl⟩

/-- HeadDir speaks of the end's first and what waits alone -/
theorem HeadDir.posted {net : List (Pk τ)} {k : Int} {c : Chan τ} {s : List τ} {n : Int} (h : HeadDir net k c s n) : HeadDir net k c.posted s n := ⟨h.first, h.quiet, h.fuel⟩

/-- the first round, whatever came ahead of it -/
theorem head_first {p q : Pair τ} {s0 s1 : List τ} (r : Round p q s0 s1) (hn : q.net = []) (h0 : q.e0.wait.length ≤ 1024) (h1 : q.e1.wait.length ≤ 1024) :
    Head ((q.post 0).post 1) s0 s1 1 := by
  have hi := r.inv
  obtain ⟨a1, a2, a3, a4⟩ := two_nets hi hn
  have go : ∀ {c d : Chan τ} {k : Int} {s h : List τ} {net : List (Pk τ)}, Dir c d k s h → c.wait.length ≤ 1024 →
      (∀ x ∈ net, x.frm = k → ∃ y ∈ c.posts, x.post = y) → (∀ y ∈ c.posts, ∃ x ∈ net, x.frm = k ∧ x.post = y) → HeadDir net k c s 1 := by
    intro c d k s h net g hw q1 q2
    have hwl : (c.wait.length : Int) = left c s := by
      have e1 := g.first; have e2 := g.le1; have e3 := g.le2
      rw [g.wait, List.length_drop, left]; omega
    refine ⟨fun hp => ?_, fun hz x hx hf => ?_, .inr (.inl (by omega))⟩
    · have hw : c.wait ≠ [] := fun e => by have := (wait_nil g).1 e; omega
      obtain ⟨y, hy, e⟩ := posts_first g hw
      obtain ⟨x, hx, hf, e2⟩ := q2 y hy
      exact ⟨x, hx, hf, by rw [e2, e]⟩
    · obtain ⟨y, hy, e⟩ := q1 x hx hf
      rw [e]; exact posts_quiet g ((wait_nil g).2 hz) y hy
  refine ⟨hi.post0.post1, rfl, rfl, ?_, ?_, .inr (by omega)⟩
  · rw [two_posts_e0]; exact (go hi.d0 h0 a1 a3).posted
  · rw [two_posts_e1]; exact (go hi.d1 h1 a2 a4).posted

/-- every later round -/
theorem head_next {p q : Pair τ} {s0 s1 : List τ} {n : Int} (hp : Head p s0 s1 n) (r : Round p q s0 s1) (hn : q.net = []) :
    Head ((q.post 0).post 1) s0 s1 (n + 1) := by
  have hi := r.inv
  have hi0 := hp.inv
  obtain ⟨a1, a2, a3, a4⟩ := two_nets hi hn
  obtain ⟨pre, hpre, hcame⟩ := r.net
  rw [hn, List.append_nil] at hpre
  subst hpre
  refine ⟨hi.post0.post1, rfl, rfl, ?_, ?_, ?_⟩
  · rw [two_posts_e0]
    exact (headDir_next hi0.d0 hi.d0 hi.d1 r.t0 hp.d0 (fun x hx hf => (hcame x hx).1 hf) (fun x hx hf => ((hcame x hx).2 hf).1) a1 a3 a4).posted
  · rw [two_posts_e1]
    exact (headDir_next hi0.d1 hi.d1 hi.d0 r.t1 hp.d1 (fun x hx hf => (hcame x hx).2 hf) (fun x hx hf => ((hcame x hx).1 hf).1) a2 a4 a3).posted
  · by_cases h0 : left p.e0 s0 = 0 ∧ left p.e1 s1 = 0
    · left
      have hU0 := left_nonneg hi.d0; have hU1 := left_nonneg hi.d1
      have t0 := r.t0.f; have t1 := r.t1.f
      have z0 : left q.e0 s0 = 0 := by unfold left at *; omega
      have z1 : left q.e1 s1 = 0 := by unfold left at *; omega
      have o0 : q.e0.owes = false := by
        cases ho : q.e0.owes with
        | false => rfl
        | true =>
          rcases r.o0 ho with h | ⟨x, hx, hf, hs⟩
          · rw [hp.o0] at h; exact absurd h (by simp)
          · have := hp.d1.quiet h0.2 x hx hf; omega
      have o1 : q.e1.owes = false := by
        cases ho : q.e1.owes with
        | false => rfl
        | true =>
          rcases r.o1 ho with h | ⟨x, hx, hf, hs⟩
          · rw [hp.o1] at h; exact absurd h (by simp)
          · have := hp.d0.quiet h0.1 x hx hf; omega
      rw [two_posts hi hn, posts_none hi.d0 ((wait_nil hi.d0).2 z0) o0, posts_none hi.d1 ((wait_nil hi.d1).2 z1) o1]
      rfl
    · right
      have hU0 := left_nonneg hi0.d0; have hU1 := left_nonneg hi0.d1
      rcases hp.d0.fuel with f0 | f0 | ⟨f0, _⟩
      · rcases hp.d1.fuel with f1 | f1 | ⟨f1, _⟩
        · exact absurd ⟨f0, f1⟩ h0
        · have : left p.e1 s1 ≠ 0 := fun e => h0 ⟨f0, e⟩
          omega
        · have : left p.e1 s1 ≠ 0 := fun e => h0 ⟨f0, e⟩
          omega
      · omega
      · omega

/-- the end: all has come -/
theorem head_done {p : Pair τ} {s0 s1 : List τ} {n : Int} (hp : Head p s0 s1 n) (hn : p.net = []) :
    p.e0.wait = [] ∧ p.e1.wait = [] ∧ p.h1 = s0 ∧ p.h0 = s1 := by
  have go : ∀ {c d : Chan τ} {k : Int} {s h : List τ}, Dir c d k s h → HeadDir p.net k c s n → c.wait = [] ∧ h = s := by
    intro c d k s h g hh
    have hU := left_nonneg g
    have hz : left c s = 0 := by
      rcases Int.lt_or_le 0 (left c s) with h | h
      · obtain ⟨x, hx, _⟩ := hh.first h
        rw [hn] at hx; simp at hx
      · omega
    refine ⟨(wait_nil g).2 hz, ?_⟩
    rw [g.heard]
    have e1 := g.first; have e2 := g.le1; have e3 := g.le2
    exact List.take_of_length_le (by unfold left at hz; omega)
  exact ⟨(go hp.inv.d0 hp.d0).1, (go hp.inv.d1 hp.d1).1, (go hp.inv.d0 hp.d0).2, (go hp.inv.d1 hp.d1).2⟩

end Hg

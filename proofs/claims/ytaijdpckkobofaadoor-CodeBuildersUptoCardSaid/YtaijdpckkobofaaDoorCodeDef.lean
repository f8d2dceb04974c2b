/- Programs as bytes, in plain Lean: what a decoder reads, what is in form, what an encoder writes. -/
import Derived.Lib.Hide
namespace Go.Proofs.YtaijdpckkobofaaDoor
set_option linter.unusedVariables false

structure PIns where
  op : Nat
  a : Int
  b : Int
structure PStop where
  name : List UInt8
  delay : Int
  flags : Int
structure PSpec where
  msg : Int
  routes : List Int
  block : Int
structure PProg where
  code : List PIns
  msgs : List (List UInt8)
  routes : List (List PStop)
  sends : List PSpec
  vars : Int
  stack : Int
  blocks : Int
  fuel : Int

def beOf : List UInt8 → Nat
  | [] => 0
  | c :: l => c.toNat * 256 ^ l.length + beOf l

def numR (k : Nat) (l : List UInt8) : Option (Nat × List UInt8) := if k ≤ l.length then some (beOf (l.take k), l.drop k) else none
def takeR (n : Nat) (l : List UInt8) : Option (List UInt8 × List UInt8) := if n ≤ l.length then some (l.take n, l.drop n) else none
/-- n things more -/
def moreR {α : Type} (p : List UInt8 → Option (α × List UInt8)) : Nat → List α → List UInt8 → Option (List α × List UInt8)
  | 0, acc, l => some (acc, l)
  | n + 1, acc, l => match p l with
    | none => none
    | some (x, l') => moreR p n (acc ++ [x]) l'
def sgn32 (a : Nat) : Int := if a < 2147483648 then (a : Int) else (a : Int) - 4294967296

def insR (l : List UInt8) : Option (PIns × List UInt8) :=
  (numR 1 l).bind fun x => (numR 4 x.2).bind fun y => (numR 2 y.2).bind fun z => some (⟨x.1, sgn32 y.1, z.1⟩, z.2)
def msgR (l : List UInt8) : Option (List UInt8 × List UInt8) := (numR 2 l).bind fun x => takeR x.1 x.2
def stopR (l : List UInt8) : Option (PStop × List UInt8) :=
  (numR 1 l).bind fun x => (takeR x.1 x.2).bind fun y => (numR 4 y.2).bind fun z => (numR 1 z.2).bind fun u => some (⟨y.1, z.1, u.1⟩, u.2)
def routeR (l : List UInt8) : Option (List PStop × List UInt8) := (numR 1 l).bind fun x => moreR stopR x.1 [] x.2
def intR (l : List UInt8) : Option (Int × List UInt8) := (numR 1 l).bind fun x => some ((x.1 : Int), x.2)
def specR (l : List UInt8) : Option (PSpec × List UInt8) :=
  (numR 1 l).bind fun x => (numR 1 x.2).bind fun y => (moreR intR y.1 [] y.2).bind fun z => (numR 1 z.2).bind fun u => some (⟨x.1, z.1, (u.1 : Int) - 1⟩, u.2)

/-- what stands behind the heads -/
def bodyR (h0 h1 h2 h3 : Nat) (vars stack blocks fuel : Int) (l : List UInt8) : Option (PProg × List UInt8) :=
  (moreR insR h0 [] l).bind fun c => (moreR msgR h1 [] c.2).bind fun m => (moreR routeR h2 [] m.2).bind fun r => (moreR specR h3 [] r.2).bind fun s => some (⟨c.1, m.1, r.1, s.1, vars, stack, blocks, fuel⟩, s.2)
/-- from the heads on -/
def progR (l : List UInt8) : Option (PProg × List UInt8) :=
  (numR 2 l).bind fun a => (numR 2 a.2).bind fun b => (numR 2 b.2).bind fun c => (numR 2 c.2).bind fun d => (numR 2 d.2).bind fun e => (numR 2 e.2).bind fun f => (numR 2 f.2).bind fun g => (numR 4 g.2).bind fun h =>
    bodyR a.1 b.1 c.1 d.1 e.1 f.1 g.1 h.1 h.2

def usesP (op : Nat) : Nat := if op = 1 ∨ op = 5 ∨ op = 6 ∨ op = 7 ∨ op = 8 ∨ op = 9 ∨ op = 10 ∨ op = 11 ∨ op = 13 then 1 else if op = 15 then 2 else 0
def inB (n lo hi : Int) : Bool := decide (lo ≤ n) && decide (n ≤ hi)
def insOk (i : PIns) : Bool :=
  if usesP i.op = 0 then decide (i.a = 0) && decide (i.b = 0)
  else if usesP i.op = 1 then (if i.op = 1 then inB i.a (-2147483648) 2147483647 else inB i.a 0 65535) && decide (i.b = 0)
  else inB i.a 0 65535 && inB i.b 0 65535
def lowC (c : UInt8) : Bool := decide (97 ≤ c.toNat) && decide (c.toNat ≤ 122)
def digC (c : UInt8) : Bool := decide (48 ≤ c.toNat) && decide (c.toNat ≤ 57)
def nameOk (l : List UInt8) : Bool := decide (1 ≤ l.length) && decide (l.length ≤ 16) && !(digC (l.headD 0)) && l.all fun c => lowC c || digC c
def stopOk (s : PStop) : Bool := nameOk s.name && inB s.delay 0 1000000 && inB s.flags 0 255
def routeOk (l : List PStop) : Bool := l.all stopOk && (decide (1 ≤ l.length) && decide (l.length ≤ 5))
def specOk (s : PSpec) : Bool := (s.routes.all fun k => inB k 0 63) && (decide (1 ≤ s.routes.length) && decide (s.routes.length ≤ 8)) && inB s.msg 0 63 && inB s.block (-1) 15
def limOk (p : PProg) : Bool := decide (p.code.length ≤ 4000) && (decide (p.msgs.length ≤ 64) && decide (p.routes.length ≤ 64) && decide (p.sends.length ≤ 64)) && inB p.vars 0 64 && inB p.stack 0 64 && inB p.blocks 0 16 && inB p.fuel 0 1000000
def formOk (p : PProg) : Bool := p.code.all insOk && (p.msgs.all fun m => decide (m.length ≤ 7200)) && p.routes.all routeOk && p.sends.all specOk
def checkP (p : PProg) : Nat := if !(p.code.all fun i => decide (i.op ≤ 16)) then 1 else if !(formOk p) then 3 else if !(limOk p) then 11 else 0

def magicL : List UInt8 := [115, 104, 108, 49]
/-- an error, or the program -/
def decodeP (b : List UInt8) : Nat ⊕ PProg :=
  if b.length < 4 then .inl 2 else if b.take 4 ≠ magicL then .inl 3
  else match progR (b.drop 4) with
    | none => .inl 2
    | some (p, r) => if r ≠ [] then .inl 2 else if checkP p ≠ 0 then .inl (checkP p) else .inr p

/-- the last k bytes of a number, the greatest first -/
def beB : Nat → Nat → List UInt8
  | 0, _ => []
  | k + 1, n => UInt8.ofNat (n / 256 ^ k) :: beB k n
def u64 (x : Int) : Nat := (x % 18446744073709551616).toNat
def numW (k : Nat) (x : Int) : List UInt8 := beB k (u64 x)
def insW (i : PIns) : List UInt8 := UInt8.ofNat i.op :: (numW 4 i.a ++ numW 2 i.b)
def msgW (m : List UInt8) : List UInt8 := numW 2 m.length ++ m
def stopW (s : PStop) : List UInt8 := numW 1 s.name.length ++ s.name ++ numW 4 s.delay ++ numW 1 s.flags
def routeW (r : List PStop) : List UInt8 := numW 1 r.length ++ r.flatMap stopW
def specW (s : PSpec) : List UInt8 := numW 1 s.msg ++ numW 1 s.routes.length ++ s.routes.flatMap (numW 1) ++ numW 1 (s.block + 1)
def headW (p : PProg) : List UInt8 := magicL ++ numW 2 p.code.length ++ numW 2 p.msgs.length ++ numW 2 p.routes.length ++ numW 2 p.sends.length ++ numW 2 p.vars ++ numW 2 p.stack ++ numW 2 p.blocks ++ numW 4 p.fuel
def encodeP (p : PProg) : List UInt8 := headW p ++ p.code.flatMap insW ++ p.msgs.flatMap msgW ++ p.routes.flatMap routeW ++ p.sends.flatMap specW

/-! what is read is what was written -/
theorem beOf_lt : ∀ (l : List UInt8), beOf l < 256 ^ l.length
  | [] => by simp [beOf]
  | c :: l => by
    have h1 := beOf_lt l
    have h2 : c.toNat ≤ 255 := by have := c.toNat_lt; omega
    have h3 : c.toNat * 256 ^ l.length ≤ 255 * 256 ^ l.length := Nat.mul_le_mul_right _ h2
    simp only [beOf, List.length_cons, Nat.pow_succ]
    omega
theorem ofNat_add_mul (c : UInt8) (k m : Nat) (h : m < 256 ^ k) (q : Nat) : UInt8.ofNat ((q * 256 ^ (k + 1) + (c.toNat * 256 ^ k + m)) / 256 ^ k) = c := by
  have hp : 0 < 256 ^ k := Nat.pos_of_ne_zero (by simp)
  have : (q * 256 ^ (k + 1) + (c.toNat * 256 ^ k + m)) / 256 ^ k = q * 256 + c.toNat := by
    rw [Nat.div_eq_iff hp, Nat.pow_succ]
    have e : (q * 256 + c.toNat) * 256 ^ k = q * (256 ^ k * 256) + c.toNat * 256 ^ k := by
      rw [Nat.add_mul, Nat.mul_assoc, Nat.mul_comm 256 (256 ^ k)]
    omega
  rw [this]
  apply UInt8.toNat_inj.1
  rw [UInt8.toNat_ofNat']
  have := c.toNat_lt
  omega
theorem beB_beOf : ∀ (l : List UInt8) (q : Nat), beB l.length (q * 256 ^ l.length + beOf l) = l
  | [], _ => rfl
  | c :: l, q => by
    have h1 := beOf_lt l
    show UInt8.ofNat _ :: beB l.length _ = c :: l
    simp only [beOf, List.length_cons]
    rw [ofNat_add_mul c l.length (beOf l) h1 q]
    have := beB_beOf l (q * 256 + c.toNat)
    have e : q * 256 ^ (l.length + 1) + (c.toNat * 256 ^ l.length + beOf l) = (q * 256 + c.toNat) * 256 ^ l.length + beOf l := by
      rw [Nat.add_mul, Nat.pow_succ, Nat.mul_assoc, Nat.mul_comm 256 (256 ^ l.length), Nat.add_assoc]
    rw [e, this]
theorem beB_take {k : Nat} {l : List UInt8} (h : k ≤ l.length) : beB k (beOf (l.take k)) = l.take k := by
  have := beB_beOf (l.take k) 0
  rw [List.length_take, Nat.min_eq_left h, Nat.zero_mul, Nat.zero_add] at this
  exact this
theorem u64_nat {n : Nat} (h : n < 18446744073709551616) : u64 (n : Int) = n := by unfold u64; omega
theorem beOf_take_lt {k : Nat} {l : List UInt8} (h : k ≤ l.length) : beOf (l.take k) < 256 ^ k := by
  have := beOf_lt (l.take k)
  rwa [List.length_take, Nat.min_eq_left h] at this

/-- a read number: its bytes are those that were there -/
theorem numR_spec {k n : Nat} {l l' : List UInt8} (h : numR k l = some (n, l')) : k ≤ l.length ∧ l' = l.drop k ∧ n = beOf (l.take k) ∧ n < 256 ^ k := by
  unfold numR at h
  split at h
  · rename_i hk
    simp only [Option.some.injEq, Prod.mk.injEq] at h
    obtain ⟨rfl, rfl⟩ := h
    exact ⟨hk, rfl, rfl, beOf_take_lt hk⟩
  · cases h
theorem numR_beB {k n : Nat} {l l' : List UInt8} (h : numR k l = some (n, l')) : beB k n ++ l' = l := by
  obtain ⟨hk, rfl, rfl, _⟩ := numR_spec h
  rw [beB_take hk, List.take_append_drop]
theorem numR_numW {k n : Nat} {l l' : List UInt8} (h : numR k l = some (n, l')) (h8 : k ≤ 4) : numW k n ++ l' = l := by
  obtain ⟨_, _, _, hlt⟩ := numR_spec h
  have : 256 ^ k ≤ 256 ^ 4 := Nat.pow_le_pow_right (by omega) h8
  unfold numW
  rw [u64_nat (by omega)]
  exact numR_beB h
theorem beB_mod : ∀ (k n m : Nat), n % 256 ^ k = m % 256 ^ k → beB k n = beB k m
  | 0, _, _, _ => rfl
  | k + 1, n, m, h => by
    have hp : 0 < 256 ^ k := Nat.pos_of_ne_zero (by simp)
    have h1 : ∀ x : Nat, x / 256 ^ k % 256 = x % 256 ^ (k + 1) / 256 ^ k := fun x => by
      rw [Nat.pow_succ, Nat.mod_mul_right_div_self]
    have h2 : ∀ x : Nat, x % 256 ^ k = x % 256 ^ (k + 1) % 256 ^ k := fun x => by
      rw [Nat.mod_mod_of_dvd]
      exact ⟨256, by rw [Nat.pow_succ]⟩
    show UInt8.ofNat _ :: beB k n = UInt8.ofNat _ :: beB k m
    congr 1
    · apply UInt8.toNat_inj.1
      rw [UInt8.toNat_ofNat', UInt8.toNat_ofNat']
      show n / 256 ^ k % 256 = m / 256 ^ k % 256
      rw [h1, h1, h]
    · exact beB_mod k n m (by rw [h2, h2 m, h])
theorem numW_sgn {n : Nat} (h : n < 256 ^ 4) : numW 4 (sgn32 n) = numW 4 n := by
  unfold numW
  apply beB_mod
  unfold sgn32 u64
  have : (256 : Nat) ^ 4 = 4294967296 := by decide
  rw [this] at *
  split <;> omega

/-- a reader whose things are written back as they were -/
def Back {α : Type} (p : List UInt8 → Option (α × List UInt8)) (f : α → List UInt8) : Prop := ∀ l x l', p l = some (x, l') → f x ++ l' = l
theorem moreR_back {α : Type} {p : List UInt8 → Option (α × List UInt8)} {f : α → List UInt8} (hb : Back p f) : ∀ (n : Nat) (acc : List α) (l : List UInt8) (xs : List α) (l' : List UInt8), moreR p n acc l = some (xs, l') → xs.length = acc.length + n ∧ xs.flatMap f ++ l' = acc.flatMap f ++ l
  | 0, acc, l, xs, l', h => by
    simp only [moreR, Option.some.injEq, Prod.mk.injEq] at h
    obtain ⟨rfl, rfl⟩ := h
    exact ⟨rfl, rfl⟩
  | n + 1, acc, l, xs, l', h => by
    unfold moreR at h
    split at h
    · cases h
    · rename_i x l1 hp
      obtain ⟨h1, h2⟩ := moreR_back hb n _ _ _ _ h
      refine ⟨by rw [h1]; simp; omega, ?_⟩
      rw [h2, List.flatMap_append, List.append_assoc]
      simp only [List.flatMap_cons, List.flatMap_nil, List.append_nil]
      rw [hb l x l1 hp]
theorem ins_back : Back insR insW := by
  intro l x l' h
  unfold insR at h
  simp only [Option.bind_eq_some_iff, Option.some.injEq, Prod.mk.injEq, Prod.exists] at h
  obtain ⟨a, l1, h1, b, l2, h2, c, l3, h3, rfl, rfl⟩ := h
  have e1 := numR_beB h1
  have e2 := numR_numW h2 (by omega)
  have e3 := numR_numW h3 (by omega)
  have hb := (numR_spec h2).2.2.2
  rw [← e1, ← e2, ← e3]
  simp only [insW, numW_sgn hb, beB, Nat.pow_zero, Nat.div_one]
  simp
theorem msg_back : Back msgR msgW := by
  intro l x l' h
  unfold msgR at h
  simp only [Option.bind_eq_some_iff, Prod.exists] at h
  obtain ⟨a, l1, h1, h2⟩ := h
  have e1 := numR_numW h1 (by omega)
  unfold takeR at h2
  split at h2
  · rename_i ha
    simp only [Option.some.injEq, Prod.mk.injEq] at h2
    obtain ⟨rfl, rfl⟩ := h2
    unfold msgW
    rw [List.length_take, Nat.min_eq_left ha, List.append_assoc, List.take_append_drop, e1]
  · cases h2
theorem takeR_spec {n : Nat} {l x l' : List UInt8} (h : takeR n l = some (x, l')) : x.length = n ∧ x ++ l' = l := by
  unfold takeR at h
  split at h
  · rename_i ha
    simp only [Option.some.injEq, Prod.mk.injEq] at h
    obtain ⟨rfl, rfl⟩ := h
    exact ⟨by rw [List.length_take, Nat.min_eq_left ha], List.take_append_drop _ _⟩
  · cases h
theorem stop_back : Back stopR stopW := by
  intro l x l' h
  unfold stopR at h
  simp only [Option.bind_eq_some_iff, Option.some.injEq, Prod.mk.injEq, Prod.exists] at h
  obtain ⟨a, l1, h1, b, l2, h2, c, l3, h3, d, l4, h4, rfl, rfl⟩ := h
  have e1 := numR_numW h1 (by omega)
  obtain ⟨hl, e2⟩ := takeR_spec h2
  have e3 := numR_numW h3 (by omega)
  have e4 := numR_numW h4 (by omega)
  rw [← e1, ← e2, ← e3, ← e4]
  simp [stopW, hl]
theorem route_back : Back routeR routeW := by
  intro l x l' h
  unfold routeR at h
  simp only [Option.bind_eq_some_iff, Prod.exists] at h
  obtain ⟨a, l1, h1, h2⟩ := h
  have e1 := numR_numW h1 (by omega)
  obtain ⟨hl, e2⟩ := moreR_back stop_back _ _ _ _ _ h2
  unfold routeW
  rw [List.append_assoc, e2, hl, ← e1]
  simp
theorem int_back : Back intR (numW 1) := by
  intro l x l' h
  unfold intR at h
  simp only [Option.bind_eq_some_iff, Option.some.injEq, Prod.mk.injEq, Prod.exists] at h
  obtain ⟨a, l1, h1, rfl, rfl⟩ := h
  exact numR_numW h1 (by omega)
theorem spec_back : Back specR specW := by
  intro l x l' h
  unfold specR at h
  simp only [Option.bind_eq_some_iff, Option.some.injEq, Prod.mk.injEq, Prod.exists] at h
  obtain ⟨a, l1, h1, b, l2, h2, c, l3, h3, d, l4, h4, rfl, rfl⟩ := h
  have e1 := numR_numW h1 (by omega)
  have e2 := numR_numW h2 (by omega)
  obtain ⟨hl, e3⟩ := moreR_back int_back _ _ _ _ _ h3
  have e4 := numR_numW h4 (by omega)
  have hc : (d : Int) - 1 + 1 = d := by omega
  simp only [List.length_nil, Nat.zero_add] at hl
  simp only [List.flatMap_nil, List.nil_append] at e3
  rw [← e1, ← e2, ← e3, ← e4]
  simp [specW, hl, hc]

theorem body_back {h0 h1 h2 h3 : Nat} {v s b f : Int} {l l' : List UInt8} {p : PProg} (h : bodyR h0 h1 h2 h3 v s b f l = some (p, l')) :
    p.code.length = h0 ∧ p.msgs.length = h1 ∧ p.routes.length = h2 ∧ p.sends.length = h3 ∧ p.vars = v ∧ p.stack = s ∧ p.blocks = b ∧ p.fuel = f ∧ p.code.flatMap insW ++ p.msgs.flatMap msgW ++ p.routes.flatMap routeW ++ p.sends.flatMap specW ++ l' = l := by
  unfold bodyR at h
  simp only [Option.bind_eq_some_iff, Option.some.injEq, Prod.mk.injEq, Prod.exists] at h
  obtain ⟨c, l1, k1, m, l2, k2, r, l3, k3, q, l4, k4, rfl, rfl⟩ := h
  obtain ⟨a1, e1⟩ := moreR_back ins_back _ _ _ _ _ k1
  obtain ⟨a2, e2⟩ := moreR_back msg_back _ _ _ _ _ k2
  obtain ⟨a3, e3⟩ := moreR_back route_back _ _ _ _ _ k3
  obtain ⟨a4, e4⟩ := moreR_back spec_back _ _ _ _ _ k4
  simp only [List.length_nil, Nat.zero_add] at a1 a2 a3 a4
  simp only [List.flatMap_nil, List.nil_append] at e1 e2 e3 e4
  refine ⟨a1, a2, a3, a4, rfl, rfl, rfl, rfl, ?_⟩
  simp only [List.append_assoc, e4, e3, e2, e1]
theorem prog_back {l l' : List UInt8} {p : PProg} (h : progR l = some (p, l')) : encodeP p ++ l' = magicL ++ l := by
  unfold progR at h
  simp only [Option.bind_eq_some_iff, Prod.exists] at h
  obtain ⟨a, la, ha, b, lb, hb, c, lc, hc, d, ld, hd, e, le, he, f, lf, hf, g, lg, hg, i, li, hi, hB⟩ := h
  obtain ⟨b1, b2, b3, b4, b5, b6, b7, b8, hall⟩ := body_back hB
  have ea := numR_numW ha (by omega)
  have eb := numR_numW hb (by omega)
  have ec := numR_numW hc (by omega)
  have ed := numR_numW hd (by omega)
  have ee := numR_numW he (by omega)
  have ef := numR_numW hf (by omega)
  have eg := numR_numW hg (by omega)
  have ei := numR_numW hi (by omega)
  have hE : encodeP p ++ l' = headW p ++ li := by
    rw [← hall]
    unfold encodeP
    simp only [List.append_assoc]
  rw [hE]
  unfold headW
  rw [b1, b2, b3, b4, b5, b6, b7, b8]
  simp only [List.append_assoc, ei, eg, ef, ee, ed, ec, eb, ea]
/-- a program that was decoded is encoded as its bytes -/
theorem decode_encode {b : List UInt8} {p : PProg} (h : decodeP b = .inr p) : encodeP p = b ∧ checkP p = 0 := by
  unfold decodeP at h
  split at h
  · cases h
  · split at h
    · cases h
    · rename_i h4 hm
      split at h
      · cases h
      · rename_i q r hp
        split at h
        · cases h
        · rename_i hr
          split at h
          · cases h
          · rename_i hc
            simp only [Sum.inr.injEq] at h
            subst h
            have := prog_back hp
            have hr' : r = [] := by simpa using hr
            subst hr'
            have hm' : b.take 4 = magicL := by simpa using hm
            rw [List.append_nil, ← hm', List.take_append_drop] at this
            exact ⟨this, by simpa using hc⟩
end Go.Proofs.YtaijdpckkobofaaDoor

/- PLAIN LAWS: the machine's quotient of two whole numbers as doubles: its bits are those of the nearest double; they are in order. -/
import Derived.Laws.FloatArith
import Derived.Laws.FloatBits
namespace Go.Proofs.YtjbhgdhdkjfmnaaDoor.QuotPlain
open Go

/-- round a/b to the nearest whole number, ties to even -/
def rne (a b : Nat) : Nat := a / b + (if b < 2 * (a % b) ∨ (b = 2 * (a % b) ∧ a / b % 2 = 1) then 1 else 0)

theorem rne_scale (c a b : Nat) (hc : 0 < c) : rne (c * a) (c * b) = rne a b := by
  unfold rne
  rw [Nat.mul_div_mul_left _ _ hc, Nat.mul_mod_mul_left]
  have e1 : (c * b < 2 * (c * (a % b))) ↔ (b < 2 * (a % b)) := by
    rw [show 2 * (c * (a % b)) = c * (2 * (a % b)) by rw [Nat.mul_left_comm]]
    exact Nat.mul_lt_mul_left hc
  have e2 : (c * b = 2 * (c * (a % b))) ↔ (b = 2 * (a % b)) := by
    rw [show 2 * (c * (a % b)) = c * (2 * (a % b)) by rw [Nat.mul_left_comm]]
    exact ⟨fun h => Nat.eq_of_mul_eq_mul_left hc h, fun h => congrArg (c * ·) h⟩
  simp only [e1, e2]

theorem rne_ratio (a b c d : Nat) (hb : 0 < b) (hd : 0 < d) (h : a * d = c * b) : rne a b = rne c d := by
  rw [← rne_scale d a b hd, ← rne_scale b c d hb]
  rw [Nat.mul_comm d a, h, Nat.mul_comm c b, Nat.mul_comm d b]

/-- 2*rne is within b of 2a : characterization -/
theorem rne_mono_same (a c b : Nat) (h : a ≤ c) : rne a b ≤ rne c b := by
  have ha := Nat.div_add_mod a b
  have hc := Nat.div_add_mod c b
  have hq : a / b ≤ c / b := Nat.div_le_div_right h
  unfold rne
  by_cases e : a / b = c / b
  · have hr : a % b ≤ c % b := by rw [e] at ha; omega
    rw [e]
    split <;> split <;> first | omega | skip
  · split <;> omega

theorem rne_mono (a b c d : Nat) (hb : 0 < b) (hd : 0 < d) (h : a * d ≤ c * b) : rne a b ≤ rne c d := by
  rw [← rne_scale d a b hd, ← rne_scale b c d hb, Nat.mul_comm d b]
  exact rne_mono_same _ _ _ (by rw [Nat.mul_comm d a, Nat.mul_comm b c]; exact h)

theorem rne_sticky (n G r h' : Nat) (hn : 0 < n) (hr : r < n) (hh : 0 < h') :
    rne (2 * G + (if r = 0 then 0 else 1)) (2 * (2 * h')) = rne (G * n + r) (n * (2 * h')) := by
  have hG := Nat.div_add_mod G (2 * h')
  have hg := Nat.mod_lt G (show 0 < 2 * h' by omega)
  generalize G / (2 * h') = f at hG
  generalize G % (2 * h') = g at hG hg
  subst hG
  generalize hs : (if r = 0 then 0 else 1) = s
  have hs1 : s ≤ 1 := by rw [← hs]; split <;> omega
  have d1 : (2 * (2 * h' * f + g) + s) / (2 * (2 * h')) = f := by
    rw [show 2 * (2 * h' * f + g) + s = (2 * g + s) + (2 * (2 * h')) * f by
      rw [Nat.mul_add, Nat.mul_assoc 2 (2 * h') f]; omega]
    rw [Nat.add_mul_div_left _ _ (by omega), Nat.div_eq_of_lt (by omega)]; omega
  have m1 : (2 * (2 * h' * f + g) + s) % (2 * (2 * h')) = 2 * g + s := by
    rw [show 2 * (2 * h' * f + g) + s = (2 * g + s) + (2 * (2 * h')) * f by
      rw [Nat.mul_add, Nat.mul_assoc 2 (2 * h') f]; omega]
    rw [Nat.add_mul_mod_self_left, Nat.mod_eq_of_lt (by omega)]
  have hlt : g * n + r < n * (2 * h') := by
    have : g * n + n ≤ (2 * h') * n := by
      rw [← Nat.succ_mul]; exact Nat.mul_le_mul_right n (by omega)
    rw [Nat.mul_comm n]; omega
  have ex : (2 * h' * f + g) * n + r = (g * n + r) + (n * (2 * h')) * f := by
    rw [Nat.add_mul, show 2 * h' * f * n = n * (2 * h') * f by rw [Nat.mul_comm (2 * h' * f) n, Nat.mul_assoc n]]; omega
  have d2 : ((2 * h' * f + g) * n + r) / (n * (2 * h')) = f := by
    rw [ex, Nat.add_mul_div_left _ _ (Nat.mul_pos hn (by omega)), Nat.div_eq_of_lt hlt]; omega
  have m2 : ((2 * h' * f + g) * n + r) % (n * (2 * h')) = g * n + r := by
    rw [ex, Nat.add_mul_mod_self_left, Nat.mod_eq_of_lt hlt]
  unfold rne
  rw [d1, m1, d2, m2]
  have key : (2 * (2 * h') < 2 * (2 * g + s) ↔ n * (2 * h') < 2 * (g * n + r)) ∧ (2 * (2 * h') = 2 * (2 * g + s) ↔ n * (2 * h') = 2 * (g * n + r)) := by
    rw [show n * (2 * h') = 2 * (h' * n) by rw [Nat.mul_left_comm, Nat.mul_comm n h']]
    rcases Nat.lt_trichotomy g h' with hl | he | hgt
    · have : g * n + n ≤ h' * n := by rw [← Nat.succ_mul]; exact Nat.mul_le_mul_right n (by omega)
      constructor <;> constructor <;> intro <;> omega
    · subst he
      by_cases h0 : r = 0
      · simp [h0] at hs; subst hs; subst h0; constructor <;> constructor <;> intro <;> omega
      · simp [h0] at hs; subst hs; constructor <;> constructor <;> intro <;> omega
    · have : h' * n + n ≤ g * n := by rw [← Nat.succ_mul]; exact Nat.mul_le_mul_right n (by omega)
      constructor <;> constructor <;> intro <;> omega
  simp only [key.1, key.2]

/-! ### bounds of rne -/
theorem rne_ge (a b : Nat) : a / b ≤ rne a b := by unfold rne; omega
theorem rne_le (a b : Nat) : rne a b ≤ a / b + 1 := by unfold rne; split <;> omega
theorem rne_zero_div (b : Nat) : rne 0 b = 0 := by unfold rne; by_cases h : b = 0 <;> simp [h] <;> omega
theorem rne_exact (a b : Nat) (hb : 0 < b) : rne (b * a) b = a := by
  unfold rne
  rw [Nat.mul_div_cancel_left _ hb, Nat.mul_mod_right]; simp; omega

/-- the even cut is rne by a power of two -/
theorem cut_even (neg : Bool) (n drop : Nat) (h : drop ≤ n.log2 + 2) : Ieee.Toward.even.cut neg n drop = rne n (2 ^ drop) := by
  unfold Ieee.Toward.cut rne
  rw [Nat.min_eq_left h, Nat.one_shiftLeft]
  simp only
  congr 1
  by_cases h1 : 2 ^ drop < 2 * (n % 2 ^ drop)
  · simp [h1]
  · by_cases h2 : 2 ^ drop = 2 * (n % 2 ^ drop)
    · by_cases h3 : n / 2 ^ drop % 2 = 1
      · simp [h3, ← h2]
      · simp [h3, ← h2]
    · simp [h1, h2]
theorem cut_zero (neg : Bool) (n : Nat) : Ieee.Toward.even.cut neg n 0 = n := by
  rw [cut_even _ _ _ (by omega)]
  have := rne_exact n 1 (by omega)
  simpa using this

theorem log2_spec (n : Nat) (h : n ≠ 0) : 2 ^ n.log2 ≤ n ∧ n < 2 ^ (n.log2 + 1) :=
  ⟨Nat.log2_self_le h, Nat.lt_log2_self⟩
theorem log2_eq (n k : Nat) (h1 : 2 ^ k ≤ n) (h2 : n < 2 ^ (k + 1)) : n.log2 = k := by
  have hn : n ≠ 0 := by have := Nat.two_pow_pos k; omega
  have a := Nat.log2_lt hn |>.2 h2
  have b := Nat.le_log2 hn |>.2 h1
  omega

abbrev D : Ieee.Format := Ieee.double
theorem D_binade : D.binade = 2 ^ 52 := rfl
theorem D_inf : D.infRung = 2047 * 2 ^ 52 := rfl
theorem D_sign : D.signWeight = 2 ^ 63 := rfl
theorem D_least : D.leastPlace = -1074 := by decide
theorem D_frac : D.fractionBits = 52 := rfl

/-- reading a word of a normal rung -/
theorem read_normal (neg : Bool) (E F : Nat) (hE : 1 ≤ E) (hE' : E < 2047) (hF : F < 2 ^ 52) :
    D.read (D.word neg (E * 2 ^ 52 + F)) = .number neg (2 ^ 52 + F) (-1074 + ((E - 1 : Nat) : Int)) := by
  have hlt : E * 2 ^ 52 + F < 2047 * 2 ^ 52 := by omega
  have hge : ¬ E * 2 ^ 52 + F < 2 ^ 52 := by omega
  have hd : (E * 2 ^ 52 + F) / 2 ^ 52 = E := by omega
  have hm : (E * 2 ^ 52 + F) % 2 ^ 52 = F := by omega
  unfold Ieee.Format.read Ieee.Format.word
  rw [D_sign, D_binade, D_inf, D_least]
  cases neg
  · have a : (E * 2 ^ 52 + F) / 2 ^ 63 % 2 = 0 := by omega
    have b : (E * 2 ^ 52 + F) % 2 ^ 63 = E * 2 ^ 52 + F := by omega
    simp only [a, b, Bool.false_eq_true, if_false, if_neg hge, if_pos hlt, hd, hm]; rfl
  · have a : (2 ^ 63 + (E * 2 ^ 52 + F)) / 2 ^ 63 % 2 = 1 := by omega
    have b : (2 ^ 63 + (E * 2 ^ 52 + F)) % 2 ^ 63 = E * 2 ^ 52 + F := by omega
    simp only [a, b, if_true, if_neg hge, if_pos hlt, hd, hm]; rfl

theorem read_zero (neg : Bool) : D.read (D.word neg 0) = .number neg 0 (-1074) := by cases neg <;> decide

/-- writing m * 2^place where the log is in the normal range -/
theorem nearest_normal (neg : Bool) (m : Nat) (place : Int) (hm : m ≠ 0) (h1 : -1074 ≤ place + m.log2 - 52) (h2 : place + m.log2 - 52 ≤ 900) :
    D.nearest neg m place = D.word neg ((place + m.log2 - 52 + 1074).toNat * 2 ^ 52 + rne (m * 2 ^ (52 - m.log2)) (2 ^ (m.log2 - 52))) := by
  unfold Ieee.Format.nearest
  rw [if_neg hm, D_frac, D_least, D_binade, D_inf]
  have hmax : max (place + (m.log2 : Int) - (52 : Nat)) (-1074) = place + m.log2 - 52 := by omega
  simp only [hmax]
  have e1 : (place - (place + (m.log2 : Int) - 52)).toNat = 52 - m.log2 := by omega
  have e2 : (place + (m.log2 : Int) - 52 - place).toNat = m.log2 - 52 := by omega
  have e3 : (place + (m.log2 : Int) - 52 - -1074).toNat = (place + m.log2 - 52 + 1074).toNat := by omega
  rw [e1, e2, e3, Nat.shiftLeft_eq]
  have hlog := log2_spec m hm
  have hk : Ieee.Toward.even.cut neg (m * 2 ^ (52 - m.log2)) (m.log2 - 52) = rne (m * 2 ^ (52 - m.log2)) (2 ^ (m.log2 - 52)) := by
    apply cut_even
    by_cases h : m.log2 ≤ 52
    · omega
    · have : 52 - m.log2 = 0 := by omega
      rw [this]; simp; omega
  rw [hk]
  have hb : rne (m * 2 ^ (52 - m.log2)) (2 ^ (m.log2 - 52)) ≤ 2 ^ 53 := by
    have h3 : m * 2 ^ (52 - m.log2) < 2 ^ 53 * 2 ^ (m.log2 - 52) := by
      rcases Nat.le_total m.log2 52 with h | h
      · have : m.log2 - 52 = 0 := by omega
        rw [this]
        have e : 2 ^ 53 * 2 ^ 0 = 2 ^ (m.log2 + 1) * 2 ^ (52 - m.log2) := by
          rw [← Nat.pow_add, ← Nat.pow_add, show m.log2 + 1 + (52 - m.log2) = 53 + 0 by omega]
        rw [e]; exact Nat.mul_lt_mul_of_pos_right hlog.2 (Nat.two_pow_pos _)
      · have : 52 - m.log2 = 0 := by omega
        rw [this, ← Nat.pow_add]
        have e : 53 + (m.log2 - 52) = m.log2 + 1 := by omega
        rw [e]; simpa using hlog.2
    have h4 := rne_le (m * 2 ^ (52 - m.log2)) (2 ^ (m.log2 - 52))
    have h5 : m * 2 ^ (52 - m.log2) / 2 ^ (m.log2 - 52) < 2 ^ 53 := Nat.div_lt_of_lt_mul (by rw [Nat.mul_comm (2 ^ (m.log2 - 52))]; exact h3)
    omega
  rw [Nat.min_eq_left]
  omega

def mant (p : Nat) : Nat := if p = 2 ^ 53 then 2 ^ 52 else p * 2 ^ (52 - p.log2)

theorem log53 (p : Nat) (h0 : p ≠ 0) (h : p ≤ 2 ^ 53) : p.log2 ≤ 53 ∧ (p ≠ 2 ^ 53 → p.log2 ≤ 52) ∧ (p = 2 ^ 53 → p.log2 = 53) := by
  have hs := log2_spec p h0
  refine ⟨?_, fun hn => ?_, fun he => ?_⟩
  · have := (Nat.log2_lt h0 (k := 54)).2 (by omega); omega
  · have := (Nat.log2_lt h0 (k := 53)).2 (by omega); omega
  · exact log2_eq _ _ (by omega) (by omega)

theorem mant_spec (p : Nat) (h0 : p ≠ 0) (h : p ≤ 2 ^ 53) : 2 ^ 52 ≤ mant p ∧ mant p < 2 ^ 53 ∧ mant p * 2 ^ (p.log2 + 1) = p * 2 ^ 53 := by
  obtain ⟨a, b, c⟩ := log53 p h0 h
  unfold mant
  split
  · rename_i e
    rw [c e, e]
    refine ⟨by omega, by omega, by decide⟩
  · rename_i e
    have b' := b e
    have hs := log2_spec p h0
    refine ⟨?_, ?_, ?_⟩
    · have e2 : 2 ^ 52 = 2 ^ p.log2 * 2 ^ (52 - p.log2) := by rw [← Nat.pow_add]; congr 1; omega
      rw [e2]; exact Nat.mul_le_mul_right _ hs.1
    · have e2 : 2 ^ 53 = 2 ^ (p.log2 + 1) * 2 ^ (52 - p.log2) := by rw [← Nat.pow_add]; congr 1; omega
      rw [e2]; exact Nat.mul_lt_mul_of_pos_right hs.2 (Nat.two_pow_pos _)
    · rw [Nat.mul_assoc, ← Nat.pow_add]; congr 2; omega

theorem ofNat_bits (neg : Bool) (p : Nat) (h0 : p ≠ 0) (h : p ≤ 2 ^ 53) :
    D.nearest neg p 0 = D.word neg ((p.log2 + 1023) * 2 ^ 52 + (mant p - 2 ^ 52)) := by
  obtain ⟨a, b, c⟩ := log53 p h0 h
  obtain ⟨m1, m2, m3⟩ := mant_spec p h0 h
  rw [nearest_normal neg p 0 h0 (by omega) (by omega)]
  have e1 : (0 + (p.log2 : Int) - 52 + 1074).toNat = p.log2 + 1022 := by omega
  rw [e1]
  have e2 : rne (p * 2 ^ (52 - p.log2)) (2 ^ (p.log2 - 52)) = mant p := by
    by_cases e : p = 2 ^ 53
    · rw [c e, e]; unfold mant; rw [if_pos rfl]; decide
    · have b' := b e
      have z : p.log2 - 52 = 0 := by omega
      rw [z]; unfold mant; rw [if_neg e]
      have := rne_exact (p * 2 ^ (52 - p.log2)) 1 (by omega)
      simpa using this
  rw [e2]; exact congrArg _ (by omega)

theorem ofNat_read (neg : Bool) (p : Nat) (h0 : p ≠ 0) (h : p ≤ 2 ^ 53) :
    D.read (D.nearest neg p 0) = .number neg (mant p) ((p.log2 : Int) - 52) := by
  obtain ⟨a, _, _⟩ := log53 p h0 h
  obtain ⟨m1, m2, m3⟩ := mant_spec p h0 h
  rw [ofNat_bits neg p h0 h, read_normal neg _ _ (by omega) (by omega) (by omega)]
  have e1 : 2 ^ 52 + (mant p - 2 ^ 52) = mant p := by omega
  have e2 : (-1074 + ((p.log2 + 1023 - 1 : Nat) : Int)) = (p.log2 : Int) - 52 := by omega
  rw [e1, e2]

/-- the exponent of p/q, moved up by 60 -/
def lg (p q : Nat) : Nat := Nat.log2 (p * 2 ^ 60 / q)
/-- the rung of the double that is nearest to p/q -/
def rung (p q : Nat) : Nat := (lg p q + 962) * 2 ^ 52 + rne (p * 2 ^ (113 - lg p q)) (2 * q)

theorem lg_spec (p q : Nat) (hp : p ≠ 0) (hp' : p ≤ 2 ^ 53) (hq : q ≠ 0) (hq' : q ≤ 2 ^ 53) :
    7 ≤ lg p q ∧ lg p q ≤ 113 ∧ 2 ^ lg p q * q ≤ p * 2 ^ 60 ∧ p * 2 ^ 60 < 2 ^ (lg p q + 1) * q := by
  have hq0 : 0 < q := Nat.pos_of_ne_zero hq
  have h1 : 2 ^ 7 ≤ p * 2 ^ 60 / q := by
    rw [Nat.le_div_iff_mul_le hq0]
    clear hq0 hq
    omega
  have h2 : p * 2 ^ 60 / q < 2 ^ 114 := by
    have : p * 2 ^ 60 / q ≤ p * 2 ^ 60 := Nat.div_le_self _ _
    omega
  have hne : p * 2 ^ 60 / q ≠ 0 := by omega
  have hs := log2_spec _ hne
  unfold lg
  refine ⟨(Nat.le_log2 hne).2 h1, ?_, ?_, ?_⟩
  · have := (Nat.log2_lt hne).2 h2; omega
  · rw [← Nat.le_div_iff_mul_le hq0]; exact hs.1
  · rw [← Nat.div_lt_iff_lt_mul hq0]; exact hs.2

theorem lg_unique (p q k : Nat) (hq : q ≠ 0) (h1 : 2 ^ k * q ≤ p * 2 ^ 60) (h2 : p * 2 ^ 60 < 2 ^ (k + 1) * q) : lg p q = k := by
  have hq0 : 0 < q := Nat.pos_of_ne_zero hq
  exact log2_eq _ _ ((Nat.le_div_iff_mul_le hq0).2 h1) ((Nat.div_lt_iff_lt_mul hq0).2 h2)



theorem pw_le (x y u v u' v' : Nat) (h : u + v' = v + u') : x * 2 ^ u ≤ y * 2 ^ v ↔ x * 2 ^ u' ≤ y * 2 ^ v' := by
  have a : x * 2 ^ u ≤ y * 2 ^ v ↔ (x * 2 ^ u) * 2 ^ u' ≤ (y * 2 ^ v) * 2 ^ u' :=
    (Nat.mul_le_mul_right_iff (Nat.two_pow_pos _)).symm
  have b : x * 2 ^ u' ≤ y * 2 ^ v' ↔ (x * 2 ^ u') * 2 ^ u ≤ (y * 2 ^ v') * 2 ^ u :=
    (Nat.mul_le_mul_right_iff (Nat.two_pow_pos _)).symm
  rw [a, b, Nat.mul_assoc, Nat.mul_assoc, Nat.mul_assoc, Nat.mul_assoc, ← Nat.pow_add, ← Nat.pow_add, ← Nat.pow_add, ← Nat.pow_add]
  rw [Nat.add_comm u' u, show v' + u = v + u' by omega]

theorem mant_le (p q u v : Nat) (hp : p ≠ 0) (hp' : p ≤ 2 ^ 53) (hq : q ≠ 0) (hq' : q ≤ 2 ^ 53) :
    mant q * 2 ^ u ≤ mant p * 2 ^ v ↔ q * 2 ^ (u + p.log2) ≤ p * 2 ^ (v + q.log2) := by
  obtain ⟨a1, a2, a3⟩ := mant_spec p hp hp'
  obtain ⟨b1, b2, b3⟩ := mant_spec q hq hq'
  rw [pw_le (mant q) (mant p) u v (q.log2 + 1 + (u + p.log2 + 1)) (p.log2 + 1 + (v + q.log2 + 1)) (by omega)]
  rw [Nat.pow_add 2 (q.log2 + 1), Nat.pow_add 2 (p.log2 + 1), ← Nat.mul_assoc, ← Nat.mul_assoc, a3, b3]
  rw [Nat.mul_assoc, Nat.mul_assoc, ← Nat.pow_add, ← Nat.pow_add]
  exact pw_le _ _ _ _ _ _ (by omega)

theorem ratio_alg (mp mq p q x y u b c K : Nat) (a3 : mp * 2 ^ x = p * K) (b3 : mq * 2 ^ y = q * K) (h : b + c + x = y + u + 1) :
    mp * 2 ^ u * (2 * q) = p * 2 ^ b * (mq * 2 ^ c) := by
  have cancel : ∀ m n c : Nat, m * 2 ^ c = n * 2 ^ c → m = n := fun m n c h => Nat.eq_of_mul_eq_mul_right (Nat.two_pow_pos c) h
  apply cancel _ _ (x + y)
  have L : mp * 2 ^ u * (2 * q) * 2 ^ (x + y) = (mp * 2 ^ x) * q * 2 ^ (y + u + 1) := by
    rw [Nat.pow_add 2 x, Nat.pow_succ, Nat.pow_add 2 y]; ac_rfl
  have R : p * 2 ^ b * (mq * 2 ^ c) * 2 ^ (x + y) = p * (mq * 2 ^ y) * 2 ^ (b + c + x) := by
    rw [Nat.pow_add 2 x, Nat.pow_add 2 (b + c), Nat.pow_add 2 b]; ac_rfl
  rw [L, R, a3, b3, h]
  ac_rfl

/-- THE MACHINE's QUOTIENT: the word of the sign and of the rung of p/q -/
theorem div_bits (s t : Bool) (p q : Nat) (hp : p ≠ 0) (hp' : p ≤ 2 ^ 53) (hq : q ≠ 0) (hq' : q ≤ 2 ^ 53) :
    D.div (D.nearest s p 0) (D.nearest t q 0) = some (D.word (s ^^ t) (rung p q)) := by
  obtain ⟨a1, a2, a3⟩ := mant_spec p hp hp'
  obtain ⟨b1, b2, b3⟩ := mant_spec q hq hq'
  obtain ⟨k1, k2, k3, k4⟩ := lg_spec p q hp hp' hq hq'
  obtain ⟨l1, _, _⟩ := log53 p hp hp'
  obtain ⟨l2, _, _⟩ := log53 q hq hq'
  have lm : (mant p).log2 = 52 := log2_eq _ _ (by omega) (by omega)
  have ln : (mant q).log2 = 52 := log2_eq _ _ (by omega) (by omega)
  have hn0 : 0 < mant q := by omega
  have hn1 : mant q ≠ 0 := by omega
  unfold Ieee.Format.div
  rw [ofNat_read s p hp hp', ofNat_read t q hq hq', D_frac]
  unfold Ieee.Datum.quotient
  have e54 : 52 + 2 + 52 - 52 = 54 := rfl
  simp only [lm, ln, if_neg hn1, Option.map_some, e54, Nat.shiftLeft_eq]
  have hdm := Nat.div_add_mod (mant p * 2 ^ 54) (mant q)
  have hr := Nat.mod_lt (mant p * 2 ^ 54) hn0
  generalize hG : mant p * 2 ^ 54 / mant q = G at hdm
  generalize hR : mant p * 2 ^ 54 % mant q = r at hdm hr
  have hs : ((r != 0).toNat) = (if r = 0 then 0 else 1) := by by_cases h : r = 0 <;> simp [h]
  rw [hs]
  -- G lies between 2^53 and 2^55
  have g1 : 2 ^ 53 ≤ G := by
    rw [← hG]
    refine (Nat.le_div_iff_mul_le hn0).2 ?_
    clear hdm hr hG hR hs k3 k4 a3 b3
    omega
  have g2 : G < 2 ^ 55 := by
    rw [← hG]
    refine (Nat.div_lt_iff_lt_mul hn0).2 ?_
    clear hdm hr hG hR hs k3 k4 a3 b3
    omega
  -- its logarithm
  have hGne : G ≠ 0 := by omega
  obtain ⟨lg1, lg2⟩ := log2_spec G hGne
  have gl1 : 53 ≤ G.log2 := (Nat.le_log2 hGne).2 g1
  have gl2 : G.log2 ≤ 54 := by have := (Nat.log2_lt hGne).2 g2; omega
  generalize hg : G.log2 = g at *
  have hDlog : (2 * G + (if r = 0 then 0 else 1)).log2 = g + 1 := by
    refine log2_eq _ _ ?_ ?_
    · rw [Nat.pow_succ]; split <;> omega
    · rw [Nat.pow_succ, Nat.pow_succ]; rw [Nat.pow_succ] at lg2; split <;> omega
  -- g tells the exponent of p / q
  have t1 : q * 2 ^ (g + p.log2) ≤ p * 2 ^ (54 + q.log2) := by
    refine (mant_le p q g 54 hp hp' hq hq').1 ?_
    have := (Nat.le_div_iff_mul_le hn0).1 (by rw [hG]; exact lg1 : 2 ^ g ≤ mant p * 2 ^ 54 / mant q)
    rw [Nat.mul_comm (mant q)]; exact this
  have t2 : ¬ q * 2 ^ (g + 1 + p.log2) ≤ p * 2 ^ (54 + q.log2) := by
    intro h
    have h := (mant_le p q (g + 1) 54 hp hp' hq hq').2 h
    rw [Nat.mul_comm (mant q)] at h
    have h := (Nat.le_div_iff_mul_le hn0).2 h
    rw [hG] at h
    exact absurd lg2 (Nat.not_lt.2 h)
  have hkk : lg p q + 54 + q.log2 = g + 60 + p.log2 := by
    have c1 : q * 2 ^ (lg p q) ≤ p * 2 ^ 60 := by rw [Nat.mul_comm]; exact k3
    have c2 : ¬ q * 2 ^ (lg p q + 1) ≤ p * 2 ^ 60 := by rw [Nat.mul_comm]; omega
    have d1 : q * 2 ^ (g + p.log2 + 60) ≤ p * 2 ^ (54 + q.log2 + 60) := (pw_le _ _ _ _ _ _ (by omega)).1 t1
    have d2 : ¬ q * 2 ^ (g + 1 + p.log2 + 60) ≤ p * 2 ^ (54 + q.log2 + 60) := fun h => t2 ((pw_le _ _ _ _ _ _ (by omega)).1 h)
    have f1 : q * 2 ^ (lg p q + (54 + q.log2)) ≤ p * 2 ^ (54 + q.log2 + 60) := (pw_le _ _ _ _ _ _ (by omega)).1 c1
    have f2 : ¬ q * 2 ^ (lg p q + 1 + (54 + q.log2)) ≤ p * 2 ^ (54 + q.log2 + 60) := fun h => c2 ((pw_le _ _ _ _ _ _ (by omega)).1 h)
    have mono : ∀ a b : Nat, a ≤ b → q * 2 ^ a ≤ q * 2 ^ b := fun a b h => Nat.mul_le_mul_left q (Nat.pow_le_pow_right (by omega) h)
    rcases Nat.lt_trichotomy (lg p q + (54 + q.log2)) (g + p.log2 + 60) with h | h | h
    · exact absurd (Nat.le_trans (mono _ _ (show lg p q + 1 + (54 + q.log2) ≤ g + p.log2 + 60 by omega)) d1) f2
    · omega
    · exact absurd (Nat.le_trans (mono _ _ (show g + 1 + p.log2 + 60 ≤ lg p q + (54 + q.log2) by omega)) f1) d2
  have hDne : (2 * G + (if r = 0 then 0 else 1)) ≠ 0 := by omega
  unfold Ieee.Format.write
  simp only
  rw [nearest_normal _ _ _ hDne (by rw [hDlog]; omega) (by rw [hDlog]; omega)]
  rw [hDlog]
  have z : 52 - (g + 1) = 0 := by omega
  have dd : g + 1 - 52 = (g - 52) + 1 := by omega
  rw [z, Nat.pow_zero, Nat.mul_one, dd]
  have ex : ((p.log2 : Int) - 52 - ((q.log2 : Int) - 52) - ((54 : Nat) : Int) - 1 + ((g + 1 : Nat) : Int) - 52 + 1074).toNat = lg p q + 962 := by omega
  rw [ex]
  have hst := rne_sticky (mant q) G r (2 ^ (g - 53)) hn0 hr (Nat.two_pow_pos _)
  have e2 : 2 * 2 ^ (g - 53) = 2 ^ (g - 52) := by rw [← Nat.pow_succ']; congr 1; omega
  rw [e2, ← Nat.pow_succ'] at hst
  rw [hst, Nat.mul_comm G, hdm]
  unfold rung
  rw [rne_ratio (mant p * 2 ^ 54) (mant q * 2 ^ (g - 52)) (p * 2 ^ (113 - lg p q)) (2 * q) (Nat.mul_pos hn0 (Nat.two_pow_pos _)) (by omega)]
  exact ratio_alg _ _ _ _ _ _ _ _ _ _ a3 b3 (by omega)

theorem lg_mono (p q r s : Nat) (hp : p ≠ 0) (hp' : p ≤ 2 ^ 53) (hq : q ≠ 0) (hq' : q ≤ 2 ^ 53) (hr : r ≠ 0) (hr' : r ≤ 2 ^ 53) (hs : s ≠ 0) (hs' : s ≤ 2 ^ 53)
    (h : p * s ≤ r * q) : lg p q ≤ lg r s := by
  obtain ⟨_, _, k3, _⟩ := lg_spec p q hp hp' hq hq'
  obtain ⟨_, _, _, j4⟩ := lg_spec r s hr hr' hs hs'
  rcases Nat.lt_or_ge (lg r s) (lg p q) with hlt | hge
  · exfalso
    have m : 2 ^ (lg r s + 1) ≤ 2 ^ lg p q := Nat.pow_le_pow_right (by omega) hlt
    have a : 2 ^ lg p q * q * s ≤ p * 2 ^ 60 * s := Nat.mul_le_mul_right s k3
    have b : r * 2 ^ 60 * q < 2 ^ (lg r s + 1) * s * q := Nat.mul_lt_mul_of_pos_right j4 (Nat.pos_of_ne_zero hq)
    have c : 2 ^ (lg r s + 1) * s * q ≤ 2 ^ lg p q * s * q := Nat.mul_le_mul_right q (Nat.mul_le_mul_right s m)
    have d : p * s * 2 ^ 60 ≤ r * q * 2 ^ 60 := Nat.mul_le_mul_right (2 ^ 60) h
    have e1 : 2 ^ lg p q * q * s = 2 ^ lg p q * s * q := by ac_rfl
    have e2 : p * 2 ^ 60 * s = p * s * 2 ^ 60 := Nat.mul_right_comm _ _ _
    have e3 : r * 2 ^ 60 * q = r * q * 2 ^ 60 := Nat.mul_right_comm _ _ _
    rw [e1, e2] at a
    rw [e3] at b
    exact absurd (Nat.lt_of_le_of_lt d (Nat.lt_of_lt_of_le b (Nat.le_trans c a))) (Nat.lt_irrefl _)
  · exact hge

/-- the significand lies in [2^52, 2^53] -/
theorem sig_bound (p q : Nat) (hp : p ≠ 0) (hp' : p ≤ 2 ^ 53) (hq : q ≠ 0) (hq' : q ≤ 2 ^ 53) :
    2 ^ 52 ≤ rne (p * 2 ^ (113 - lg p q)) (2 * q) ∧ rne (p * 2 ^ (113 - lg p q)) (2 * q) ≤ 2 ^ 53 := by
  obtain ⟨_, k2, k3, k4⟩ := lg_spec p q hp hp' hq hq'
  have c1 : q * 2 ^ (lg p q) ≤ p * 2 ^ 60 := by rw [Nat.mul_comm]; exact k3
  have c2 : ¬ q * 2 ^ (lg p q + 1) ≤ p * 2 ^ 60 := by rw [Nat.mul_comm]; omega
  have d1 : q * 2 ^ 53 ≤ p * 2 ^ (113 - lg p q) := (pw_le _ _ _ _ _ _ (by omega)).1 c1
  have d2 : ¬ q * 2 ^ 54 ≤ p * 2 ^ (113 - lg p q) := fun h => c2 ((pw_le _ _ _ _ _ _ (by omega)).1 h)
  have a := rne_ge (p * 2 ^ (113 - lg p q)) (2 * q)
  have b := rne_le (p * 2 ^ (113 - lg p q)) (2 * q)
  generalize p * 2 ^ (113 - lg p q) = X at *
  have e1 : 2 ^ 52 ≤ X / (2 * q) := (Nat.le_div_iff_mul_le (by omega)).2 (by clear c1 c2 k3 k4 a b; omega)
  have e2 : X / (2 * q) < 2 ^ 53 := (Nat.div_lt_iff_lt_mul (by omega)).2 (by clear c1 c2 k3 k4 a b; omega)
  omega

theorem rung_bound (p q : Nat) (hp : p ≠ 0) (hp' : p ≤ 2 ^ 53) (hq : q ≠ 0) (hq' : q ≤ 2 ^ 53) :
    2 ^ 52 ≤ rung p q ∧ rung p q < 2000 * 2 ^ 52 := by
  obtain ⟨k1, k2, _, _⟩ := lg_spec p q hp hp' hq hq'
  obtain ⟨a, b⟩ := sig_bound p q hp hp' hq hq'
  unfold rung
  omega

theorem rung_mono (p q r s : Nat) (hp : p ≠ 0) (hp' : p ≤ 2 ^ 53) (hq : q ≠ 0) (hq' : q ≤ 2 ^ 53) (hr : r ≠ 0) (hr' : r ≤ 2 ^ 53) (hs : s ≠ 0) (hs' : s ≤ 2 ^ 53)
    (h : p * s ≤ r * q) : rung p q ≤ rung r s := by
  have hl := lg_mono p q r s hp hp' hq hq' hr hr' hs hs' h
  obtain ⟨a, b⟩ := sig_bound p q hp hp' hq hq'
  obtain ⟨c, d⟩ := sig_bound r s hr hr' hs hs'
  rcases Nat.lt_or_eq_of_le hl with hlt | heq
  · unfold rung; omega
  · have := rne_mono (p * 2 ^ (113 - lg p q)) (2 * q) (r * 2 ^ (113 - lg r s)) (2 * s) (by omega) (by omega) (by
      rw [← heq]
      have := Nat.mul_le_mul_right (2 ^ (113 - lg p q) * 2) h
      have e1 : p * 2 ^ (113 - lg p q) * (2 * s) = p * s * (2 ^ (113 - lg p q) * 2) := by ac_rfl
      have e2 : r * 2 ^ (113 - lg p q) * (2 * q) = r * q * (2 ^ (113 - lg p q) * 2) := by ac_rfl
      rw [e1, e2]; exact this)
    unfold rung
    rw [heq] at this ⊢
    omega

/-! ### the order of words -/
def mg (R : Nat) : Nat := if R = 0 then 0 else 2 ^ 52 + R % 2 ^ 52
def pl (R : Nat) : Nat := R / 2 ^ 52 - 1
def Good (R : Nat) : Prop := R = 0 ∨ (2 ^ 52 ≤ R ∧ R < 2000 * 2 ^ 52)

theorem read_good (neg : Bool) (R : Nat) (h : Good R) : D.read (D.word neg R) = .number neg (mg R) (-1074 + (pl R : Int)) := by
  rcases h with rfl | ⟨h1, h2⟩
  · exact read_zero neg
  · have e : R = R / 2 ^ 52 * 2 ^ 52 + R % 2 ^ 52 := by omega
    have := read_normal neg (R / 2 ^ 52) (R % 2 ^ 52) (by omega) (by omega) (Nat.mod_lt _ (by omega))
    rw [← e] at this
    rw [this]; unfold mg pl; rw [if_neg (by omega)]

theorem mg_mono (R S : Nat) (hR : Good R) (hS : Good S) (h : R ≤ S) (base : Nat) (h1 : base ≤ pl R) (h2 : base ≤ pl S) :
    mg R <<< (pl R - base) ≤ mg S <<< (pl S - base) := by
  rcases hR with rfl | ⟨a1, a2⟩
  · unfold mg; simp
  · rcases hS with rfl | ⟨b1, b2⟩
    · omega
    · rw [Nat.shiftLeft_eq, Nat.shiftLeft_eq]
      have e1 : mg R = 2 ^ 52 + R % 2 ^ 52 := by unfold mg; rw [if_neg (by omega)]
      have e2 : mg S = 2 ^ 52 + S % 2 ^ 52 := by unfold mg; rw [if_neg (by omega)]
      by_cases he : R / 2 ^ 52 = S / 2 ^ 52
      · have : pl R = pl S := by unfold pl; rw [he]
        rw [this]
        exact Nat.mul_le_mul_right _ (by omega)
      · have hlt : R / 2 ^ 52 < S / 2 ^ 52 := by
          have := Nat.div_le_div_right (c := 2 ^ 52) h; omega
        have hp : pl R + 1 ≤ pl S := by unfold pl; omega
        have c1 : mg R ≤ 2 ^ 53 := by rw [e1]; omega
        have c2 : 2 ^ 52 ≤ mg S := by rw [e2]; omega
        have c3 : 2 ^ (pl R - base + 1) ≤ 2 ^ (pl S - base) := Nat.pow_le_pow_right (by omega) (by omega)
        have c4 : mg R * 2 ^ (pl R - base) ≤ 2 ^ 53 * 2 ^ (pl R - base) := Nat.mul_le_mul_right _ c1
        have c5 : 2 ^ 52 * 2 ^ (pl S - base) ≤ mg S * 2 ^ (pl S - base) := Nat.mul_le_mul_right _ c2
        rw [Nat.pow_succ] at c3
        generalize 2 ^ (pl R - base) = X at *
        generalize 2 ^ (pl S - base) = Y at *
        omega

theorem cmp_le (a b : Int) (h : a ≤ b) : compare a b = .lt ∨ compare a b = .eq := by
  simp only [compare, compareOfLessAndEq]
  by_cases h1 : a < b
  · simp [h1]
  · have : a = b := by omega
    simp [this]
theorem cmp_ge (a b : Int) (h : b ≤ a) : compare a b = .gt ∨ compare a b = .eq := by
  simp only [compare, compareOfLessAndEq]
  by_cases h1 : a = b
  · simp [h1]
  · have h2 : ¬ a < b := by omega
    simp [h1, h2]

/-- what a word of sign and rung is worth, against another one -/
theorem order_words (s t : Bool) (R S : Nat) (hR : Good R) (hS : Good S) :
    ∃ X Y : Nat, D.order (D.word s R) (D.word t S) = some (compare (if s then -(X : Int) else X) (if t then -(Y : Int) else Y)) ∧ (R ≤ S → X ≤ Y) ∧ (S ≤ R → Y ≤ X) ∧ (R = 0 → X = 0) ∧ (S = 0 → Y = 0) := by
  refine ⟨mg R <<< (pl R - min (pl R) (pl S)), mg S <<< (pl S - min (pl R) (pl S)), ?_, fun h => ?_, fun h => ?_, fun h => by rw [h]; simp [mg], fun h => by rw [h]; simp [mg]⟩
  · unfold Ieee.Format.order
    rw [read_good s R hR, read_good t S hS]
    unfold Ieee.Datum.order Ieee.signed
    have b1 : (-1074 + (pl R : Int) - min (-1074 + (pl R : Int)) (-1074 + (pl S : Int))).toNat = pl R - min (pl R) (pl S) := by omega
    have b2 : (-1074 + (pl S : Int) - min (-1074 + (pl R : Int)) (-1074 + (pl S : Int))).toNat = pl S - min (pl R) (pl S) := by omega
    simp only [b1, b2]
  · exact mg_mono R S hR hS h _ (Nat.min_le_left _ _) (Nat.min_le_right _ _)
  · exact mg_mono S R hS hR h _ (Nat.min_le_right _ _) (Nat.min_le_left _ _)

/-- THE BITS OF p/q -/
def qbits (p q : Int) : Nat := if p = 0 then 0 else D.word (decide (p < 0)) (rung p.natAbs q.natAbs)

theorem go_quo (p q : Int) (h1 : -9007199254740992 ≤ p) (h2 : p ≤ 9007199254740992) (h3 : 1 ≤ q) (h4 : q ≤ 9007199254740992) :
    floatBits .quo .f64 (floatOfInt .f64 p) (floatOfInt .f64 q) = some (qbits p q) := by
  show D.div (D.nearest (decide (p < 0)) p.natAbs 0) (D.nearest (decide (q < 0)) q.natAbs 0) = _
  have hq : decide (q < 0) = false := by simp; omega
  rw [hq]
  unfold qbits
  by_cases h0 : p = 0
  · subst h0
    rw [if_pos rfl]
    have hz : D.nearest (decide ((0 : Int) < 0)) (0 : Int).natAbs 0 = D.word false 0 := rfl
    rw [hz]
    have qa : q.natAbs ≠ 0 := by omega
    have qb : q.natAbs ≤ 2 ^ 53 := by omega
    obtain ⟨m1, _, _⟩ := mant_spec q.natAbs qa qb
    unfold Ieee.Format.div
    rw [read_zero, ofNat_read false q.natAbs qa qb]
    unfold Ieee.Datum.quotient
    have hn1 : mant q.natAbs ≠ 0 := by omega
    simp only [if_neg hn1, Nat.zero_shiftLeft, Nat.zero_div, Nat.zero_mod, Option.map_some]
    rfl
  · rw [if_neg h0, div_bits _ _ _ _ (by omega) (by omega) (by omega) (by omega), Bool.xor_false]

theorem qbits_good (p q : Int) (h1 : -9007199254740992 ≤ p) (h2 : p ≤ 9007199254740992) (h3 : 1 ≤ q) (h4 : q ≤ 9007199254740992) :
    ∃ R, qbits p q = D.word (decide (p < 0)) R ∧ Good R ∧ (p = 0 → R = 0) ∧ (p ≠ 0 → R = rung p.natAbs q.natAbs) := by
  unfold qbits
  by_cases h0 : p = 0
  · subst h0; exact ⟨0, rfl, .inl rfl, fun _ => rfl, fun h => absurd rfl h⟩
  · rw [if_neg h0]
    exact ⟨_, rfl, .inr (rung_bound _ _ (by omega) (by omega) (by omega) (by omega)), fun h => absurd h h0, fun _ => rfl⟩

theorem qbits_order (p q r s : Int) (h1 : -9007199254740992 ≤ p) (h2 : p ≤ 9007199254740992) (h3 : 1 ≤ q) (h4 : q ≤ 9007199254740992)
    (g1 : -9007199254740992 ≤ r) (g2 : r ≤ 9007199254740992) (g3 : 1 ≤ s) (g4 : s ≤ 9007199254740992) :
    (p * s ≤ r * q → D.order (qbits p q) (qbits r s) = some .lt ∨ D.order (qbits p q) (qbits r s) = some .eq) ∧
    (r * q ≤ p * s → D.order (qbits p q) (qbits r s) = some .gt ∨ D.order (qbits p q) (qbits r s) = some .eq) := by
  obtain ⟨R, e1, hR, z1, n1⟩ := qbits_good p q h1 h2 h3 h4
  obtain ⟨S, e2, hS, z2, n2⟩ := qbits_good r s g1 g2 g3 g4
  obtain ⟨X, Y, ho, hle, hge, hX0, hY0⟩ := order_words (decide (p < 0)) (decide (r < 0)) R S hR hS
  rw [e1, e2, ho]
  -- the magnitudes compare as the cross products
  have mono : ∀ a b c d : Int, a ≠ 0 → c ≠ 0 → a.natAbs ≤ 2 ^ 53 → c.natAbs ≤ 2 ^ 53 → 1 ≤ b → b ≤ 9007199254740992 → 1 ≤ d → d ≤ 9007199254740992 → a.natAbs * d.natAbs ≤ c.natAbs * b.natAbs →
      rung a.natAbs b.natAbs ≤ rung c.natAbs d.natAbs := fun a b c d ha hc ha' hc' hb hb' hd hd' h =>
    rung_mono _ _ _ _ (by omega) ha' (by omega) (by omega) (by omega) hc' (by omega) (by omega) h
  have absmul : ∀ a b : Int, (a.natAbs : Int) * (b.natAbs : Int) = ((a * b).natAbs : Int) := fun a b => by rw [Int.natAbs_mul]; simp
  have cross : ∀ (a b c d : Int), ((a * d).natAbs ≤ (c * b).natAbs ↔ a.natAbs * d.natAbs ≤ c.natAbs * b.natAbs) := fun a b c d => by rw [Int.natAbs_mul, Int.natAbs_mul]
  have neg_ps : p < 0 → p * s < 0 := fun h => Int.mul_neg_of_neg_of_pos h (by omega)
  have pos_ps : 0 < p → 0 < p * s := fun h => Int.mul_pos h (by omega)
  have neg_rq : r < 0 → r * q < 0 := fun h => Int.mul_neg_of_neg_of_pos h (by omega)
  have pos_rq : 0 < r → 0 < r * q := fun h => Int.mul_pos h (by omega)
  have zero_ps : p = 0 → p * s = 0 := fun h => by rw [h]; simp
  have zero_rq : r = 0 → r * q = 0 := fun h => by rw [h]; simp
  generalize hu : p * s = u at *
  generalize hv : r * q = v at *
  have RS : p ≠ 0 → r ≠ 0 → u.natAbs ≤ v.natAbs → X ≤ Y := fun hp hr h => hle (by
    rw [n1 hp, n2 hr]; exact mono p q r s hp hr (by omega) (by omega) h3 h4 g3 g4 ((cross p q r s).1 (by rw [hu, hv]; exact h)))
  have SR : p ≠ 0 → r ≠ 0 → v.natAbs ≤ u.natAbs → Y ≤ X := fun hp hr h => hge (by
    rw [n1 hp, n2 hr]; exact mono r s p q hr hp (by omega) (by omega) g3 g4 h3 h4 ((cross r s p q).1 (by rw [hu, hv]; exact h)))
  have Z1 : p = 0 → X = 0 := fun h => hX0 (z1 h)
  have Z2 : r = 0 → Y = 0 := fun h => hY0 (z2 h)
  clear mono absmul cross hle hge n1 n2 z1 z2 hX0 hY0 ho e1 e2 hu hv hR hS
  refine ⟨fun h => ?_, fun h => ?_⟩
  · have := cmp_le (if decide (p < 0) = true then -(X : Int) else X) (if decide (r < 0) = true then -(Y : Int) else Y) (by
      by_cases c1 : p < 0 <;> by_cases c2 : r < 0 <;> by_cases c3 : p = 0 <;> by_cases c4 : r = 0 <;> simp only [c1, c2, decide_true, decide_false, if_true, if_false, Bool.false_eq_true] <;> omega)
    exact this.imp (congrArg _) (congrArg _)
  · have := cmp_ge (if decide (p < 0) = true then -(X : Int) else X) (if decide (r < 0) = true then -(Y : Int) else Y) (by
      by_cases c1 : p < 0 <;> by_cases c2 : r < 0 <;> by_cases c3 : p = 0 <;> by_cases c4 : r = 0 <;> simp only [c1, c2, decide_true, decide_false, if_true, if_false, Bool.false_eq_true] <;> omega)
    exact this.imp (congrArg _) (congrArg _)

/-- the bits depend on the number alone -/
theorem qbits_scale (p q k : Int) (h1 : -9007199254740992 ≤ p * k) (h2 : p * k ≤ 9007199254740992) (h3 : 1 ≤ q) (h4 : q * k ≤ 9007199254740992)
    (h5 : 1 ≤ k) (h6 : -9007199254740992 ≤ p) (h7 : p ≤ 9007199254740992) (h8 : q ≤ 9007199254740992) : qbits (p * k) (q * k) = qbits p q := by
  have hqk : 1 ≤ q * k := by have := Int.mul_le_mul h3 h5 (by omega) (by omega); simpa using this
  unfold qbits
  by_cases h0 : p = 0
  · subst h0; simp
  · have hk0 : p * k ≠ 0 := Int.mul_ne_zero h0 (by omega)
    rw [if_neg h0, if_neg hk0]
    have sg : decide (p * k < 0) = decide (p < 0) := by
      rw [decide_eq_decide]
      constructor
      · intro h
        by_cases c : p < 0
        · exact c
        · have := Int.mul_nonneg (show 0 ≤ p by omega) (show 0 ≤ k by omega); omega
      · intro h; exact Int.mul_neg_of_neg_of_pos h (by omega)
    rw [sg]
    refine congrArg _ (Nat.le_antisymm ?_ ?_)
    · apply rung_mono <;> first | omega | skip
      rw [Int.natAbs_mul, Int.natAbs_mul, Nat.mul_assoc, Nat.mul_comm k.natAbs]
      exact Nat.le_refl _
    · apply rung_mono <;> first | omega | skip
      rw [Int.natAbs_mul, Int.natAbs_mul, Nat.mul_assoc, Nat.mul_comm k.natAbs]
      exact Nat.le_refl _
end Go.Proofs.YtjbhgdhdkjfmnaaDoor.QuotPlain

/-
  The arithmetic of ratings: fractions in lowest terms, rounding half away from 0. No Go text is named here.
-/

namespace Go.Proofs.YtfmljboogkhobaaGreatDoor.RatP
/-- a fraction in lowest terms -/
def lowN (n d : Int) : Int := n / (Int.gcd n d : Int)
def lowD (n d : Int) : Int := d / (Int.gcd n d : Int)

theorem gcd_pos {n d : Int} (h : 0 < d) : 0 < (Int.gcd n d : Int) := by
  have : 0 < Int.gcd n d := Int.gcd_pos_of_ne_zero_right _ (by omega)
  omega

theorem low_scale {n d c : Int} (hc : 0 < c) : lowN (n * c) (d * c) = lowN n d ∧ lowD (n * c) (d * c) = lowD n d := by
  unfold lowN lowD
  have e : (Int.gcd (n * c) (d * c) : Int) = (Int.gcd n d : Int) * c := by
    rw [Int.gcd_mul_right, Int.natCast_mul]
    have : (c.natAbs : Int) = c := by omega
    rw [this]
  rw [e]
  exact ⟨Int.mul_ediv_mul_of_pos_left _ _ hc, Int.mul_ediv_mul_of_pos_left _ _ hc⟩

theorem low_cross {n d n' d' : Int} (hd : 0 < d) (hd' : 0 < d') (h : n * d' = n' * d) : lowN n d = lowN n' d' ∧ lowD n d = lowD n' d' := by
  have a := low_scale (n := n) (d := d) hd'
  have b := low_scale (n := n') (d := d') hd
  rw [← a.1, ← a.2, ← b.1, ← b.2, h, Int.mul_comm d d']
  exact ⟨rfl, rfl⟩

theorem low_mul {n d : Int} (_hd : 0 < d) : lowN n d * d = n * lowD n d := by
  unfold lowN lowD
  have h1 := Int.mul_ediv_cancel' (Int.gcd_dvd_left n d)
  have h2 := Int.mul_ediv_cancel' (Int.gcd_dvd_right n d)
  generalize hg : (Int.gcd n d : Int) = g at *
  generalize n / g = a at *
  generalize d / g = b at *
  rw [← h1, ← h2]
  rw [Int.mul_comm g b, ← Int.mul_assoc, Int.mul_assoc a b g, Int.mul_comm (g * a) b, Int.mul_comm g a, Int.mul_comm a (b * g), Int.mul_comm b (a * g), Int.mul_comm (b * g) a, Int.mul_assoc a g b, Int.mul_comm g b]

theorem lowD_pos {n d : Int} (hd : 0 < d) : 0 < lowD n d := by
  unfold lowD
  exact Int.ediv_pos_of_pos_of_dvd hd (by omega) (Int.gcd_dvd_right n d)

theorem lowD_le {n d : Int} (hd : 0 < d) : lowD n d ≤ d := by
  unfold lowD
  exact Int.ediv_le_self _ (by omega)

theorem lowN_abs {n d : Int} (_hd : 0 < d) : (lowN n d).natAbs ≤ n.natAbs := by
  unfold lowN
  rw [Int.natAbs_ediv_of_dvd (Int.gcd_dvd_left n d)]
  exact Nat.div_le_self _ _

theorem lowN_neg (n d : Int) : lowN (-n) d = - lowN n d := by
  unfold lowN
  rw [Int.neg_gcd] 
  exact Int.neg_ediv_of_dvd (Int.gcd_dvd_left n d)
theorem lowD_neg (n d : Int) : lowD (-n) d = lowD n d := by
  unfold lowD
  rw [Int.neg_gcd]

/-- (a, b) is the fraction k / D in lowest terms -/
def Is (a b k D : Int) : Prop := a = lowN k D ∧ b = lowD k D

theorem Is.mk_low {n d k D : Int} (hd : 0 < d) (hD : 0 < D) (h : n * D = k * d) : Is (lowN n d) (lowD n d) k D := low_cross hd hD h

theorem Is.eq {a b k D : Int} (h : Is a b k D) (hD : 0 < D) : a * D = k * b := by rw [h.1, h.2]; exact low_mul hD
theorem Is.pos {a b k D : Int} (h : Is a b k D) (hD : 0 < D) : 0 < b := by rw [h.2]; exact lowD_pos hD
theorem Is.le {a b k D : Int} (h : Is a b k D) (hD : 0 < D) : b ≤ D := by rw [h.2]; exact lowD_le hD
theorem Is.abs {a b k D : Int} (h : Is a b k D) (hD : 0 < D) : a.natAbs ≤ k.natAbs := by rw [h.1]; exact lowN_abs hD
theorem Is.neg {a b k D : Int} (h : Is a b k D) : Is (-a) b (-k) D := ⟨by rw [h.1, lowN_neg], by rw [h.2, lowD_neg]⟩
theorem Is.scale {a b k D c : Int} (h : Is a b k D) (hc : 0 < c) : Is a b (k * c) (D * c) := ⟨by rw [h.1, (low_scale hc).1], by rw [h.2, (low_scale hc).2]⟩

theorem Is.plus {a b c d k k' D : Int} (h : Is a b k D) (h' : Is c d k' D) (hD : 0 < D) : Is (lowN (a * d + c * b) (b * d)) (lowD (a * d + c * b) (b * d)) (k + k') D := by
  have p := h.pos hD
  have q := h'.pos hD
  refine Is.mk_low (Int.mul_pos p q) hD ?_
  have e := h.eq hD
  have e' := h'.eq hD
  have : (a * d + c * b) * D = (a * D) * d + (c * D) * b := by
    rw [Int.add_mul, Int.mul_right_comm, Int.mul_right_comm c]
  rw [this, e, e', Int.add_mul, Int.mul_assoc, Int.mul_assoc k' d b, Int.mul_comm d b]

/-- the times of a fraction by a whole number, over another -/
theorem Is.times {a b k D m n : Int} (h : Is a b k D) (hD : 0 < D) (hn : 0 < n) : Is (lowN (a * m) (b * n)) (lowD (a * m) (b * n)) (k * m) (D * n) := by
  have p := h.pos hD
  refine Is.mk_low (Int.mul_pos p hn) (Int.mul_pos hD hn) ?_
  have e := h.eq hD
  have : a * m * (D * n) = (a * D) * (m * n) := by
    rw [Int.mul_assoc, Int.mul_assoc, Int.mul_left_comm m]
  rw [this, e, Int.mul_assoc, Int.mul_assoc, Int.mul_left_comm b]

/-- a rating's expected share in units of 1/800000, as the program reckons: clamped -/
def expd (A B : Int) : Int := min 800000 (max 0 (400000 + A - B))

theorem expd_bd (A B : Int) : 0 ≤ expd A B ∧ expd A B ≤ 800000 := by unfold expd; omega

theorem clamp_scale {x y c : Int} (hc : 0 < c) : (min (max (x * c) 0) (y * c)) = (min (max x 0) y) * c := by
  have hz : (0 : Int) = 0 * c := by omega
  by_cases h1 : x ≤ 0
  · have h2 : x * c ≤ 0 := by rw [hz]; exact Int.mul_le_mul_of_nonneg_right h1 (by omega)
    rw [Int.max_eq_right h2, Int.max_eq_right h1]
    by_cases h3 : 0 ≤ y
    · have : 0 ≤ y * c := Int.mul_nonneg h3 (by omega)
      rw [Int.min_eq_left this, Int.min_eq_left h3]; omega
    · have h4 : y * c ≤ 0 := by rw [hz]; exact Int.mul_le_mul_of_nonneg_right (by omega) (by omega)
      rw [Int.min_eq_right h4, Int.min_eq_right (by omega)]
  · have h2 : 0 ≤ x * c := Int.mul_nonneg (by omega) (by omega)
    rw [Int.max_eq_left h2, Int.max_eq_left (by omega)]
    by_cases h3 : x ≤ y
    · rw [Int.min_eq_left h3, Int.min_eq_left (Int.mul_le_mul_of_nonneg_right h3 (by omega))]
    · have h4 : y * c ≤ x * c := Int.mul_le_mul_of_nonneg_right (by omega) (by omega)
      rw [Int.min_eq_right h4, Int.min_eq_right (show y ≤ x by omega)]

/-- ExpectedOf's fraction -/
theorem expd_is {aN aD bN bD p q : Int} (ha : 0 < aD) (hb : 0 < bD) (hp : aD * p = 1000) (hq : bD * q = 1000) (hp0 : 0 < p) (hq0 : 0 < q) :
    Is (lowN (min (max (aN * bD - bN * aD + 400 * aD * bD) 0) (800 * aD * bD)) (800 * aD * bD))
       (lowD (min (max (aN * bD - bN * aD + 400 * aD * bD) 0) (800 * aD * bD)) (800 * aD * bD)) (expd (aN * p) (bN * q)) 800000 := by
  have hden : 0 < 800 * aD * bD := Int.mul_pos (by omega) hb
  refine Is.mk_low hden (by omega) ?_
  have hpq : 0 < p * q := Int.mul_pos hp0 hq0
  have e1 : 800 * aD * bD * (p * q) = 800000 * 1000 := by
    have : 800 * aD * bD * (p * q) = 800 * ((aD * p) * (bD * q)) := by ac_rfl
    rw [this, hp, hq]; rfl
  have e2 : (aN * bD - bN * aD + 400 * aD * bD) * (p * q) = (400000 + aN * p - bN * q) * 1000 := by
    have x1 : aN * bD * (p * q) = aN * p * (bD * q) := by ac_rfl
    have x2 : bN * aD * (p * q) = bN * q * (aD * p) := by ac_rfl
    have x3 : 400 * aD * bD * (p * q) = 400 * ((aD * p) * (bD * q)) := by ac_rfl
    rw [Int.add_mul, Int.sub_mul, x1, x2, x3, hp, hq]; omega
  have c1 := clamp_scale (x := aN * bD - bN * aD + 400 * aD * bD) (y := 800 * aD * bD) hpq
  rw [e1, e2] at c1
  have c2 := clamp_scale (x := 400000 + aN * p - bN * q) (y := 800000) (c := 1000) (by omega)
  rw [c2] at c1
  have e3 : min (max (400000 + aN * p - bN * q) 0) 800000 = expd (aN * p) (bN * q) := by unfold expd; omega
  rw [e3] at c1
  generalize min (max (aN * bD - bN * aD + 400 * aD * bD) 0) (800 * aD * bD) = m at *
  generalize 800 * aD * bD = den at *
  generalize expd (aN * p) (bN * q) = E at *
  generalize p * q = c at *
  -- c1 : E * 1000 = m * c, e1 : den * c = 800000 * 1000
  have : m * 800000 * c = E * den * c := by
    have y1 : m * 800000 * c = (m * c) * 800000 := by ac_rfl
    have y2 : E * den * c = E * (den * c) := by ac_rfl
    rw [y1, y2, ← c1, e1]; omega
  exact Int.eq_of_mul_eq_mul_right (by omega) this

/-- the nearest whole number of S / b, half away from 0 -/
def near (S b : Int) : Int := if S < 0 then - ((2 * (-S) + b) / (2 * b)) else (2 * S + b) / (2 * b)

theorem near_frac {N D S b : Int} (hD : 0 < D) (hb : 0 < b) (h : N * (1000 * b) = S * D) :
    (2000 * N + D) / (2 * D) = (2 * S + b) / (2 * b) := by
  have e : (2000 * N + D) * b = (2 * S + b) * D := by
    have : 2000 * N * b = 2 * (N * (1000 * b)) := by
      have : N * (1000 * b) = 1000 * (N * b) := by ac_rfl
      rw [this, Int.mul_assoc]; omega
    rw [Int.add_mul, Int.add_mul, this, h, Int.mul_comm D b, Int.mul_assoc]
  have a1 : (2000 * N + D) * b / (2 * D * b) = (2000 * N + D) / (2 * D) := Int.mul_ediv_mul_of_pos_left _ _ hb
  have a2 : (2 * S + b) * D / (2 * b * D) = (2 * S + b) / (2 * b) := Int.mul_ediv_mul_of_pos_left _ _ hD
  rw [← a1, ← a2, e, Int.mul_right_comm]

def sgn (n : Int) : Int := if n < 0 then -1 else if 0 < n then 1 else 0
def clampR (n : Int) : Int := min 10000000 (max (-10000000) n)

theorem rate_eq {N D S b : Int} (hD : 0 < D) (hb : 0 < b) (h : N * (1000 * b) = S * D) :
    (min ((2000 * max N (-N) + D) / (2 * D)) 10000000) * sgn N = clampR (near S b) := by
  have hb2 : 0 < 1000 * b := by omega
  by_cases hS : S < 0
  · have hN : N < 0 := by
      apply Classical.byContradiction
      intro hn
      have h1 : 0 ≤ N * (1000 * b) := Int.mul_nonneg (by omega) (by omega)
      have h2 : S * D < 0 := Int.mul_neg_of_neg_of_pos hS hD
      omega
    have h' : (-N) * (1000 * b) = (-S) * D := by rw [Int.neg_mul, Int.neg_mul, h]
    have e := near_frac hD hb h'
    rw [Int.max_eq_right (by omega), e]
    have hk : 0 ≤ (2 * (-S) + b) / (2 * b) := Int.ediv_nonneg (by omega) (by omega)
    unfold sgn clampR near
    rw [if_pos hN, if_pos hS]
    omega
  · by_cases hz : S = 0
    · subst hz
      have hN : N = 0 := by
        have : N * (1000 * b) = 0 := by rw [h]; omega
        rcases Int.mul_eq_zero.1 this with h1 | h1
        · exact h1
        · omega
      subst hN
      unfold sgn clampR near
      simp
      have : b / (2 * b) = 0 := Int.ediv_eq_zero_of_lt (by omega) (by omega)
      omega
    · have hN : 0 < N := by
        apply Classical.byContradiction
        intro hn
        have h1 : N * (1000 * b) ≤ 0 := by
          have := Int.mul_le_mul_of_nonneg_right (show N ≤ 0 by omega) (show 0 ≤ 1000 * b by omega)
          omega
        have h2 : 0 < S * D := Int.mul_pos (by omega) hD
        omega
      have e := near_frac hD hb h
      rw [Int.max_eq_left (by omega), e]
      have hk : 0 ≤ (2 * S + b) / (2 * b) := Int.ediv_nonneg (by omega) (by omega)
      unfold sgn clampR near
      rw [if_neg (by omega), if_pos hN, if_neg hS]
      omega
end Go.Proofs.YtfmljboogkhobaaGreatDoor.RatP

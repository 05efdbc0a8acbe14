/-
  Frames in plain Lean: how long they are, and the least number of frames that take a time. No Go text is named here.
-/

namespace Go.Proofs.YticbbehfphnbhaaDoor.FrmP

/-- how many milliseconds frames are, at a rate of N / D -/
def ft (n N D : Int) : Int := (2000 * n * D + N) / (2 * N)

/-- as Go reckons: the quotient is cut towards 0 -/
def ftt (n N D : Int) : Int := (2000 * n * D + N).tdiv (2 * N)
theorem ftt_eq {n N D : Int} (h0 : 0 ≤ n) (hN : 1 ≤ N) (hD : 1 ≤ D) : ftt n N D = ft n N D := by
  unfold ftt ft
  have : 0 ≤ 2000 * n * D := Int.mul_nonneg (by omega) (by omega)
  exact Int.tdiv_eq_ediv_of_nonneg (by omega)

theorem ft_mono {a b N D : Int} (hN : 1 ≤ N) (hD : 1 ≤ D) (h : a ≤ b) : ft a N D ≤ ft b N D := by
  unfold ft
  refine Int.ediv_le_ediv (by omega) ?_
  have := Int.mul_le_mul_of_nonneg_right (show 2000 * a ≤ 2000 * b by omega) (show 0 ≤ D by omega)
  omega
theorem ft_bd {n D : Int} (h0 : 0 ≤ n) (h1 : n ≤ 10000000) (hD : 1 ≤ D) (hD1 : D ≤ 100000) : 0 ≤ 2000 * n * D ∧ 2000 * n * D ≤ 2000000000000000 := by
  refine ⟨Int.mul_nonneg (by omega) (by omega), ?_⟩
  have a := Int.mul_le_mul_of_nonneg_right (show 2000 * n ≤ 20000000000 by omega) (show 0 ≤ D by omega)
  omega
theorem ft_nonneg {n N D : Int} (h0 : 0 ≤ n) (hN : 1 ≤ N) (hD : 1 ≤ D) : 0 ≤ ft n N D := by
  unfold ft
  have : 0 ≤ 2000 * n * D := Int.mul_nonneg (by omega) (by omega)
  exact Int.ediv_nonneg (by omega) (by omega)

/-- v is the least number of frames that take t -/
def Least (t N D v : Int) : Prop := 0 ≤ v ∧ t ≤ ft v N D ∧ (0 < v → ft (v - 1) N D < t)
theorem Least.unique {t N D u v : Int} (hN : 1 ≤ N) (hD : 1 ≤ D) (h : Least t N D u) (k : Least t N D v) : u = v := by
  obtain ⟨h0, h1, h2⟩ := h
  obtain ⟨k0, k1, k2⟩ := k
  apply Classical.byContradiction
  intro hne
  rcases Int.lt_or_gt_of_ne hne with hlt | hlt
  · have := ft_mono hN hD (show u ≤ v - 1 by omega)
    have := k2 (by omega)
    omega
  · have := ft_mono hN hD (show v ≤ u - 1 by omega)
    have := h2 (by omega)
    omega

/-- a part of a video: from, to -/
abbrev Part := Int × Int
def badB (p : Part) : Bool := decide (p.1 < 0) || decide (p.2 < p.1) || decide (10000000 < p.2)
def lostI (p x : Part) : Int := max 0 (min x.2 p.2 - max x.1 p.1)
end Go.Proofs.YticbbehfphnbhaaDoor.FrmP

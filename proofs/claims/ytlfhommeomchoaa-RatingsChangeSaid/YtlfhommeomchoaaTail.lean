/-
  The end of RatedOf's round, in plain numbers.
-/
import Derived.Test.YtlfhommeomchoaaSt
namespace Go.Proofs.Ytlfhommeomchoaa
open Go Go.RowKit

theorem St.cut1 {w W : World} {v : Value} {n : Nat} {L : List Rtd} {l : List (Nat × TypeId × Array Value)} {a : Nat × TypeId × Array Value} (h : St w W v n L (a :: l)) : St w W v n L [a] :=
  ⟨h.1, h.2.1, fun p hp => by
    have : p = a := by simpa using hp
    subst this
    exact h.2.2 _ (List.mem_cons_self ..)⟩

/-- what RatedOf's two calls give: the new rating as a fraction -/
structure TailOK (aN aD gN gD wt m1 sN sD N D S : Int) : Prop where
  a1 : -10000000 ≤ aN
  a2 : aN ≤ 10000000
  a3 : 1 ≤ aD
  a4 : aD ≤ 1000
  g1 : -102400000 ≤ gN
  g2 : gN ≤ 102400000
  g3 : 1 ≤ gD
  g4 : gD ≤ 800000
  p1 : -102400000000 ≤ gN * wt
  p2 : gN * wt ≤ 102400000000
  p3 : 1 ≤ gD * m1
  p4 : gD * m1 ≤ 101600000
  s1 : -102400000000 ≤ sN
  s2 : sN ≤ 102400000000
  s3 : 1 ≤ sD
  s4 : sD ≤ 101600000
  q1 : -1000000000000000000 ≤ aN * sD
  q2 : aN * sD ≤ 1000000000000000000
  q3 : -1000000000000000000 ≤ sN * aD
  q4 : sN * aD ≤ 1000000000000000000
  q5 : 1 ≤ aD * sD
  q6 : aD * sD ≤ 9000000000000000000
  n1 : -2000000000000 ≤ N
  n2 : N ≤ 2000000000000
  n3 : 1 ≤ D
  n4 : D ≤ 101600000
  fin : (min ((2000 * max N (-N) + D) / (2 * D)) 10000000) * RatP.sgn N = RatP.clampR (RatP.near S (m1 * 800))

theorem tail_ok {aN aD gN gD G wt m1 sN sD N D : Int} (ha : RatOK aN aD) (hg : RatP.Is gN gD G 800000) (hG1 : -102400000 ≤ G) (hG2 : G ≤ 102400000) (hw1 : 1 ≤ wt) (hw2 : wt ≤ 1000) (hm1 : 1 ≤ m1) (hm2 : m1 ≤ 127)
    (es1 : RatP.lowN (gN * wt) (gD * m1) = sN) (es2 : RatP.lowD (gN * wt) (gD * m1) = sD)
    (en1 : RatP.lowN (aN * sD + sN * aD) (aD * sD) = N) (en2 : RatP.lowD (aN * sD + sN * aD) (aD * sD) = D) :
    TailOK aN aD gN gD wt m1 sN sD N D (thou aN aD * m1 * 800 + wt * G) := by
  have hg1 := hg.pos (by omega)
  have hg2 := hg.le (by omega)
  have hg3 := hg.abs (by omega)
  have p := mul_bd (x := gN) (y := wt) (X := 102400000) (Y := 1000) (by omega) (by omega) (by omega) (by omega) (by omega)
  have p' := mul_bd (x := gD) (y := m1) (X := 800000) (Y := 127) (by omega) (by omega) (by omega) (by omega) (by omega)
  have p3 : 0 < gD * m1 := Int.mul_pos (by omega) (by omega)
  have hs := hg.times (m := wt) (n := m1) (by omega) (by omega)
  have hsD1 := RatP.lowD_pos (n := gN * wt) p3
  have hsD2 := RatP.lowD_le (n := gN * wt) p3
  have hsN := RatP.lowN_abs (n := gN * wt) p3
  rw [es1, es2] at hs
  rw [es2] at hsD1 hsD2
  rw [es1] at hsN
  have a1 := ha.d1
  have a2 := ha.d2
  have a3 := ha.lo
  have a4 := ha.hi
  have hdv := ha.dv
  have ht := thou_bd ha
  have q := mul_bd (x := aN) (y := sD) (X := 10000000) (Y := 101600000) (by omega) (by omega) (by omega) (by omega) (by omega)
  have q' := mul_bd (x := sN) (y := aD) (X := 102400000000) (Y := 1000) (by omega) (by omega) (by omega) (by omega) (by omega)
  have q'' := mul_bd (x := aD) (y := sD) (X := 1000) (Y := 101600000) (by omega) (by omega) (by omega) (by omega) (by omega)
  have q5 : 0 < aD * sD := Int.mul_pos (by omega) (by omega)
  have hD1 := RatP.lowD_pos (n := aN * sD + sN * aD) q5
  have hb : 0 < m1 * 800 := by omega
  have hse := hs.eq (Int.mul_pos (by omega) (by omega))
  have hI : RatP.Is N D (thou aN aD * m1 * 800 + wt * G) (1000 * (m1 * 800)) := by
    rw [← en1, ← en2]
    refine RatP.Is.mk_low q5 (by omega) ?_
    unfold thou
    generalize 1000 / aD = k at *
    have e1 : (aN * sD + sN * aD) * (1000 * (m1 * 800)) = aN * sD * m1 * 800 * 1000 + sN * (800000 * m1) * aD := by
      have x1 : (aN * sD + sN * aD) * (1000 * (m1 * 800)) = aN * sD * (1000 * (m1 * 800)) + sN * aD * (1000 * (m1 * 800)) := Int.add_mul ..
      have x2 : aN * sD * (1000 * (m1 * 800)) = aN * sD * m1 * 800 * 1000 := by ac_rfl
      have x3 : sN * aD * (1000 * (m1 * 800)) = sN * ((800 * 1000) * m1) * aD := by ac_rfl
      rw [x1, x2, x3]
      rfl
    rw [e1, hse, ← hdv]
    have y : (aN * k * m1 * 800 + wt * G) * (aD * sD) = aN * k * m1 * 800 * (aD * sD) + wt * G * (aD * sD) := Int.add_mul ..
    have z1 : aN * sD * m1 * 800 * (aD * k) = aN * k * m1 * 800 * (aD * sD) := by ac_rfl
    have z2 : G * wt * sD * aD = wt * G * (aD * sD) := by ac_rfl
    rw [y, z1, z2]
  have hS1 := mul_bd (x := thou aN aD) (y := m1) (X := 10000000) (Y := 127) (by omega) (by omega) (by omega) (by omega) (by omega)
  have hS2 := mul_bd (x := G) (y := wt) (X := 102400000) (Y := 1000) (by omega) (by omega) (by omega) (by omega) (by omega)
  rw [Int.mul_comm G wt] at hS2
  have hN := hI.abs (by omega)
  have hDl := hI.le (by omega)
  have hDp := hI.pos (by omega)
  have hfin := RatP.rate_eq (S := thou aN aD * m1 * 800 + wt * G) hDp hb (hI.eq (by omega))
  exact ⟨by omega, by omega, by omega, by omega, by omega, by omega, by omega, by omega, by omega, by omega, by omega, by omega, by omega, by omega, by omega, by omega, by omega, by omega, by omega, by omega, by omega, by omega, by omega, by omega, by omega, by omega, hfin⟩
end Go.Proofs.Ytlfhommeomchoaa

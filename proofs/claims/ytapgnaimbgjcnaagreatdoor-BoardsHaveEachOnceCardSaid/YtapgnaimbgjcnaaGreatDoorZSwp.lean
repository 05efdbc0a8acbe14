/-
  slices.swapRangeCmpFunc at events: places exchanged, from a world of the sort's to a world of the sort's.
-/
import Derived.Test.YtapgnaimbgjcnaaGreatDoorProg
import Derived.Shelf.SlSortCmp.KitK
import Derived.Sort.WalkB2
import Derived.Sort.WalkB12
import Derived.Deep.LoopGhost
import Derived.Shelf.SlSortCmp.QuietGrown
import Derived.Lib.Hide
namespace Go.Proofs.YtapgnaimbgjcnaaGreatDoor
open Go Go.RowKit Go.Lib Go.Sort
variable {α : Type} [Inhabited α]
def swapR : Nat → Nat → Nat → Array α → Array α
 | 0, _, _, d => d
 | n + 1, a, b, d => swapR n (a + 1) (b + 1) (swp d a b)
theorem swapR_size : ∀ (n a b : Nat) (d : Array α), (swapR n a b d).size = d.size
 | 0, _, _, _ => rfl
 | n + 1, a, b, d => by rw [swapR, swapR_size, size_swp]
set_option maxHeartbeats 4000000 in
set_option maxRecDepth 1000000 in
theorem swapRange_calls (k : Nat) (aE : ∀ w, (isAgg 78).run Tryz.prog w = .ok true w) (zE : ∀ w, (Go.sizeOf 78).run Tryz.prog w = .ok k w) (enc : α → List Value) (g : Nat) (cb : Array Value) (blk cap a b n : Nat) (d0 d : Array α) (w0 w : World)
 (R : RowK enc k w0 blk 0 d0) (hs : d0.size = d.size) (S : SWK enc k w0 blk 0 d w) (ha : a + n ≤ d.size) (hb : b + n ≤ d.size) (hsz : d.size < 4611686018427387904) :
 Calls Tryz.prog 252 #[.slice (some ⟨blk, 0, none⟩) d.size cap, .int .i64 a, .int .i64 b, .int .i64 n, .func (.func g) #[] cb] w fun e w' => e = .returned (.tuple #[]) ∧ SWK enc k w0 blk 0 (swapR n a b d) w' := by
 have mixed : Tryz.prog.follows Departure.mixedOrders = true := by kernel_rfl
 have S0 : Aside (SWK enc k w0 blk 0 d w) := S
 clear S
 go_enter Tryz.func252, Tryz.ntmps252
 go_wp2_with fail
 go_loopg [10] n (fun kx s10 wr => ∃ (i : Nat) (dk : Array α), s10 = .int .i64 i ∧ i ≤ n ∧ n - i ≤ kx ∧ dk.size = d.size ∧ Aside (SWK enc k w0 blk 0 dk wr) ∧ Aside (swapR (n - i) (a + i) (b + i) dk = swapR n a b d))
 case atStart => exact ⟨0, d, rfl, Nat.zero_le _, by omega, rfl, S0, rfl⟩
 case round =>
  clear S0
  obtain ⟨i, dk, rfl, hi, hkx, hds, S1, heq⟩ := hrel
  by_cases hlt : i < n
  · have hlt' : (i : Int) < (n : Int) := by omega
    go_wp2_with fail
    have pa44 : (0 : Int) ≤ (a : Int) + (i : Int) := by omega
    have ba44 : (a : Int) + (i : Int) < (d.size : Int) := by omega
    have ra44 : IntKind.i64.wrap ((a : Int) + (i : Int)) = (a : Int) + (i : Int) := by rw [IntKind.wrap_i64]; omega
    have ea44 : ((a : Int) + (i : Int)).toNat = a + i := by omega
    have pc44 : (0 : Int) ≤ (b : Int) + (i : Int) := by omega
    have bc44 : (b : Int) + (i : Int) < (d.size : Int) := by omega
    have rc44 : IntKind.i64.wrap ((b : Int) + (i : Int)) = (b : Int) + (i : Int) := by rw [IntKind.wrap_i64]; omega
    have ec44 : ((b : Int) + (i : Int)).toNat = b + i := by omega
    have S2 : Aside (SWK enc k w0 blk 0 (swp dk (a + i) (b + i)) ((wr.drew.setCells blk (0 + (a + i) * k) (enc dk[b + i]!)).setCells blk (0 + (b + i) * k) (enc dk[a + i]!))) := S1.out.swapped R (a + i) (b + i) (by omega) (by omega)
    have l44a := S1.out.ld1 R (by omega) Tryz.prog (a + i) (by omega)
    have l44b := S1.out.ld1 R (by omega) Tryz.prog (b + i) (by omega)
    have s44a := S1.out.st1 R (by omega) Tryz.prog (a + i) (by omega) dk[b + i]!
    have s44b := S1.out.st2 R (by omega) Tryz.prog (a + i) (b + i) (by omega) (by omega) dk[b + i]! dk[a + i]!
    have n44a : (enc dk[a + i]!).length = k := R.hk _
    have n44b : (enc dk[b + i]!).length = k := R.hk _
    generalize enc dk[a + i]! = cI44 at S2 l44a s44b n44a
    generalize enc dk[b + i]! = cJ44 at S2 l44b s44a s44b n44b
    simp only [Nat.zero_add] at l44a l44b s44a s44b S2
    clear S1
    go_wp2_with fail
    go_big_region_o
    clear l44a l44b s44a s44b
    generalize (wr.drew.setCells blk ((a + i) * k) cJ44).setCells blk ((b + i) * k) cI44 = w2 at S2 ⊢
    go_wp2
    go_roundg (n - (i + 1))
    case measure => omega
    case rel =>
     refine ⟨i + 1, swp dk (a + i) (b + i), by simp, hlt, Nat.le_refl _, by rw [size_swp]; exact hds, S2, ?_⟩
     have h := heq.out
     rw [show n - i = (n - (i + 1)) + 1 by omega, swapR] at h
     exact h
  · obtain rfl : i = n := by omega
    go_wp2
    go_end0
    refine ⟨rfl, ?_⟩
    have h := heq.out
    rw [Nat.sub_self, swapR] at h
    rw [← h]
    exact S1.out
end Go.Proofs.YtapgnaimbgjcnaaGreatDoor
/-
  slices.rotateCmpFunc at events, from a world of the sort's to a world of the sort's.
-/
namespace Go.Proofs.YtapgnaimbgjcnaaGreatDoor
open Go Go.RowKit Go.Lib Go.Sort
variable {α : Type} [Inhabited α]
def rotR : Nat → Nat → Nat → Nat → Array α → Array α
 | 0, _, _, _, d => d
 | f + 1, i, m, j, d => if i = j then swapR i (m - i) m d else if j < i then rotR f (i - j) m j (swapR j (m - i) m d) else rotR f i m (j - i) (swapR i (m - i) (m + j - i) d)
theorem rotR_size : ∀ (f i m j : Nat) (d : Array α), (rotR f i m j d).size = d.size
 | 0, _, _, _, _ => rfl
 | f + 1, i, m, j, d => by
   rw [rotR]
   split
   · rw [swapR_size]
   · split <;> rw [rotR_size, swapR_size]
set_option maxHeartbeats 4000000 in
set_option maxRecDepth 1000000 in
theorem rotate_calls (k : Nat) (aE : ∀ w, (isAgg 78).run Tryz.prog w = .ok true w) (zE : ∀ w, (Go.sizeOf 78).run Tryz.prog w = .ok k w) (enc : α → List Value) (g : Nat) (cb : Array Value) (blk cap a m b : Nat) (d0 d : Array α) (w0 w : World)
 (R : RowK enc k w0 blk 0 d0) (hs : d0.size = d.size) (S : SWK enc k w0 blk 0 d w) (ha : a < m) (hm : m < b) (hb : b ≤ d.size) (hsz : d.size < 4611686018427387904) :
 Calls Tryz.prog 204 #[.slice (some ⟨blk, 0, none⟩) d.size cap, .int .i64 a, .int .i64 m, .int .i64 b, .func (.func g) #[] cb] w fun e w' => e = .returned (.tuple #[]) ∧ SWK enc k w0 blk 0 (rotR (b - a) (m - a) m (b - m) d) w' := by
 have S0 : Aside (SWK enc k w0 blk 0 d w) := S
 have HC : Aside (∀ (p q n : Nat) (dk : Array α) (W : World), SWK enc k w0 blk 0 dk W → dk.size = d.size → p + n ≤ d.size → q + n ≤ d.size → Calls Tryz.prog 252 #[.slice (some ⟨blk, 0, none⟩) d.size cap, .int .i64 p, .int .i64 q, .int .i64 n, .func (.func g) #[] cb] W fun e w' => e = .returned (.tuple #[]) ∧ SWK enc k w0 blk 0 (swapR n p q dk) w') := fun p q n dk W h hd hp hq => by
  have := swapRange_calls k aE zE enc g cb blk cap p q n d0 dk w0 W R (by omega) h (by omega) (by omega) (by omega)
  rw [hd] at this
  exact this
 clear S aE zE R
 have e1 : (m : Int) - (a : Int) = ((m - a : Nat) : Int) := by omega
 have e2 : (b : Int) - (m : Int) = ((b - m : Nat) : Int) := by omega
 go_enter Tryz.func204, Tryz.ntmps204
 go_wp2_with fail
 go_loopg [10, 11] (b - a) (fun kx s10 s11 wr => ∃ (i j f : Nat) (dk : Array α), s10 = .int .i64 i ∧ s11 = .int .i64 j ∧ 0 < i ∧ 0 < j ∧ a + i ≤ m ∧ m + j ≤ b ∧ i + j ≤ f ∧ f ≤ kx ∧ dk.size = d.size ∧ Aside (SWK enc k w0 blk 0 dk wr) ∧ Aside (rotR f i m j dk = rotR (b - a) (m - a) m (b - m) d))
 case atStart => exact ⟨m - a, b - m, b - a, d, by go_num, by go_num, by omega, by omega, by omega, by omega, by omega, Nat.le_refl _, rfl, S0, rfl⟩
 case round =>
  clear S0 e1 e2
  obtain ⟨i, j, f, dk, rfl, rfl, hi, hj, hai, hmj, hf, hkx, hds, S1, heq⟩ := hrel
  obtain ⟨f', rfl⟩ : ∃ f', f = f' + 1 := ⟨f - 1, by omega⟩
  have e3 : (m : Int) - (i : Int) = ((m - i : Nat) : Int) := by omega
  by_cases hij : i = j
  · subst hij
    go_wp2_with fail
    refine (HC.out (m - i) m i dk wr S1.out hds (by omega) (by omega)).mono ?_
    rintro e w1 ⟨rfl, S2⟩
    have S3 : Aside (SWK enc k w0 blk 0 (swapR i (m - i) m dk) w1) := S2
    clear S2
    go_wp2_with fail
    go_end0
    refine ⟨rfl, ?_⟩
    have h := heq.out
    rw [rotR, if_pos rfl] at h
    rw [← h]
    exact S3.out
  · have hne : ((i : Int) != (j : Int)) = true := by rw [bne_iff_ne]; omega
    have hne2 : ¬ (i : Int) = (j : Int) := by omega
    by_cases hlt : j < i
    · have hlt' : (j : Int) < (i : Int) := by omega
      have e4 : (i : Int) - (j : Int) = ((i - j : Nat) : Int) := by omega
      go_wp2_with fail
      refine (HC.out (m - i) m j dk wr S1.out hds (by omega) (by omega)).mono ?_
      rintro e w1 ⟨rfl, S2⟩
      have S3 : Aside (SWK enc k w0 blk 0 (swapR j (m - i) m dk) w1) := S2
      clear S2
      go_wp2_with fail
      go_roundg f'
      case measure => omega
      case rel =>
       refine ⟨i - j, j, f', swapR j (m - i) m dk, by go_num, rfl, by omega, hj, by omega, hmj, by omega, Nat.le_refl _, by rw [swapR_size]; exact hds, S3, ?_⟩
       have h := heq.out
       rw [rotR, if_neg hij, if_pos hlt] at h
       exact h
    · have hlt' : ¬ (j : Int) < (i : Int) := by omega
      have e4 : (j : Int) - (i : Int) = ((j - i : Nat) : Int) := by omega
      have e5 : (m : Int) + (j : Int) - (i : Int) = ((m + j - i : Nat) : Int) := by omega
      go_wp2_with fail
      refine (HC.out (m - i) (m + j - i) i dk wr S1.out hds (by omega) (by omega)).mono ?_
      rintro e w1 ⟨rfl, S2⟩
      have S3 : Aside (SWK enc k w0 blk 0 (swapR i (m - i) (m + j - i) dk) w1) := S2
      clear S2
      go_wp2_with fail
      go_roundg f'
      case measure => omega
      case rel =>
       refine ⟨i, j - i, f', swapR i (m - i) (m + j - i) dk, rfl, by go_num, hi, by omega, hai, by omega, by omega, Nat.le_refl _, by rw [swapR_size]; exact hds, S3, ?_⟩
       have h := heq.out
       rw [rotR, if_neg hij, if_neg hlt] at h
       exact h
end Go.Proofs.YtapgnaimbgjcnaaGreatDoor
/-
  slices.symMergeCmpFunc at events where the left part is one element.
-/
namespace Go.Proofs.YtapgnaimbgjcnaaGreatDoor
open Go Go.RowKit Go.Lib Go.Sort
variable {α : Type} [Inhabited α]
def bsr (p : Nat → Bool) : Nat → Nat → Nat → Nat
 | 0, i, _ => i
 | f + 1, i, j => if i < j then if p ((i + j) / 2) = true then bsr p f ((i + j) / 2 + 1) j else bsr p f i ((i + j) / 2) else i
theorem bsr_end (p : Nat → Bool) (f i : Nat) : bsr p f i i = i := by
 cases f
 · rfl
 · rw [bsr, if_neg (Nat.lt_irrefl _)]
def shU : Nat → Nat → Array α → Array α
 | 0, _, d => d
 | n + 1, k, d => shU n (k + 1) (swp d k (k + 1))
theorem shU_size : ∀ (n k : Nat) (d : Array α), (shU n k d).size = d.size
 | 0, _, _ => rfl
 | n + 1, k, d => by rw [shU, shU_size, size_swp]
def shD : Nat → Nat → Array α → Array α
 | 0, _, d => d
 | n + 1, k, d => shD n (k - 1) (swp d k (k - 1))
theorem shD_size : ∀ (n k : Nat) (d : Array α), (shD n k d).size = d.size
 | 0, _, _ => rfl
 | n + 1, k, d => by rw [shD, shD_size, size_swp]
def symA (lt : α → α → Bool) (a m b : Nat) (d : Array α) : Array α := shU (bsr (fun h => lt d[h]! d[a]!) (b - m) m b - 1 - a) a d
set_option maxHeartbeats 4000000 in
set_option maxRecDepth 1000000 in
theorem symA_calls (k : Nat) (aE : ∀ w, (isAgg 78).run Tryz.prog w = .ok true w) (zE : ∀ w, (Go.sizeOf 78).run Tryz.prog w = .ok k w) (enc : α → List Value) (cf : α → α → Int) (g : Nat) (cb : Array Value) (blk cap a m b : Nat) (d0 d : Array α) (w0 w : World)
 (eg : ∀ args w, (callFunc g args).run Tryz.prog w = .ok (.enter g args) w) (hcmp : CmpLays Tryz.prog g cb enc k cf blk 0 d0.size w0)
 (R : RowK enc k w0 blk 0 d0) (hs : d0.size = d.size) (S : SWK enc k w0 blk 0 d w) (ha : m = a + 1) (hm : m ≤ b) (hb : b ≤ d.size) (hsz : d.size < 2305843009213693952) :
 Calls Tryz.prog 156 #[.slice (some ⟨blk, 0, none⟩) d.size cap, .int .i64 a, .int .i64 m, .int .i64 b, .func (.func g) #[] cb] w fun e w' => e = .returned (.tuple #[]) ∧ SWK enc k w0 blk 0 (symA (ltOf cf) a m b d) w' := by
 have mixed : Tryz.prog.follows Departure.mixedOrders = true := by kernel_rfl
 have S0 : Aside (SWK enc k w0 blk 0 d w) := S
 have HC : Aside (CmpLays Tryz.prog g cb enc k cf blk 0 d0.size w0) := hcmp
 clear S hcmp
 have e1 : (m : Int) - (a : Int) = 1 := by omega
 have HA : Aside (m = a + 1) := ha
 have ham : a < m := by omega
 clear ha
 obtain ⟨P, hP⟩ : ∃ P : Nat → Bool, P = fun h => ltOf cf d[h]! d[a]! := ⟨_, rfl⟩
 have HP : Aside (P = fun h => ltOf cf d[h]! d[a]!) := hP
 clear hP
 go_enter Tryz.func156, Tryz.ntmps156
 go_wp2_with fail
 go_loopg [10, 11] (b - m) (fun kx s10 s11 wr => ∃ (i j f : Nat), s10 = .int .i64 i ∧ s11 = .int .i64 j ∧ m ≤ i ∧ i ≤ j ∧ j ≤ b ∧ j - i ≤ f ∧ f ≤ kx ∧ Aside (SWK enc k w0 blk 0 d wr) ∧ Aside (bsr P f i j = bsr P (b - m) m b))
 case atStart => exact ⟨m, b, b - m, rfl, rfl, Nat.le_refl _, hm, Nat.le_refl _, Nat.le_refl _, Nat.le_refl _, S0, rfl⟩
 case round =>
  clear S0
  obtain ⟨i, j, f, rfl, rfl, hmi, hij, hjb, hf, hkx, S1, heq⟩ := hrel
  by_cases hlt : i < j
  · have hlt' : (i : Int) < (j : Int) := by omega
    obtain ⟨f', rfl⟩ : ∃ f', f = f' + 1 := ⟨f - 1, by omega⟩
    have h1 := heq.out
    rw [bsr, if_pos hlt] at h1
    obtain ⟨h, hh⟩ : ∃ h, (i + j) / 2 = h := ⟨_, rfl⟩
    rw [hh] at h1
    have eh : ((i : Int) + (j : Int)) / 2 = (h : Int) := by omega
    have hih : i ≤ h := by omega
    have hhj : h < j := by omega
    have h2 := Lib.hid h1
    clear h1 heq hh
    have pa44 : (0 : Int) ≤ (h : Int) := by omega
    have ba44 : (h : Int) < (d.size : Int) := by omega
    have ra44 : IntKind.i64.wrap (h : Int) = (h : Int) := by rw [IntKind.wrap_i64]; omega
    have ea44 : ((h : Int)).toNat = h := by omega
    have pc44 : (0 : Int) ≤ (a : Int) := by omega
    have bc44 : (a : Int) < (d.size : Int) := by omega
    have rc44 : IntKind.i64.wrap (a : Int) = (a : Int) := by rw [IntKind.wrap_i64]; omega
    have ec44 : ((a : Int)).toNat = a := by omega
    obtain ⟨x44, hx44⟩ : ∃ x, x = d[h]! := ⟨_, rfl⟩
    obtain ⟨y44, hy44⟩ : ∃ x, x = d[a]! := ⟨_, rfl⟩
    have l44a := S1.out.ld R (by omega) Tryz.prog h (by omega)
    have l44b := S1.out.ld R (by omega) Tryz.prog a (by omega)
    rw [← hx44] at l44a
    rw [← hy44] at l44b
    have hc44 := S1.out.cmp HC.out (by omega) x44 y44
    have hPh : P h = decide (cf x44 y44 < 0) := by rw [HP.out, hx44, hy44]; rfl
    rw [hPh] at h2
    clear hPh hx44 hy44
    simp only [Nat.zero_add] at l44a l44b
    cases hd44 : decide (cf x44 y44 < 0)
    · have hv44 : ¬ cf x44 y44 < 0 := of_decide_eq_false hd44
      have H3 := Lib.hid (h2.out.symm.trans (by rw [hd44]))
      clear h2
      go_wp2_with fail
      go_quiet_grown (first | (go_at_fn g; refine Calls.grown_of (hc44 _ _)))
      have SV1 : Aside (SWK enc k w0 blk 0 d (grow (wr.drewN nq) osq)) := S1.out.grown nq osq
      clear l44a l44b hc44 S1
      generalize grow (wr.drewN nq) osq = wv1 at SV1 ⊢
      clear nq osq
      go_wp2
      go_roundg f'
      case measure => omega
      case rel => exact ⟨i, h, f', rfl, rfl, hmi, hih, by omega, by omega, Nat.le_refl _, SV1, H3.out.symm⟩
    · have hv44 : cf x44 y44 < 0 := of_decide_eq_true hd44
      have H3 := Lib.hid (h2.out.symm.trans (by rw [hd44]))
      clear h2
      go_wp2_with fail
      go_quiet_grown (first | (go_at_fn g; refine Calls.grown_of (hc44 _ _)))
      have SV1 : Aside (SWK enc k w0 blk 0 d (grow (wr.drewN nq) osq)) := S1.out.grown nq osq
      clear l44a l44b hc44 S1
      generalize grow (wr.drewN nq) osq = wv1 at SV1 ⊢
      clear nq osq
      go_wp2
      go_roundg f'
      case measure => omega
      case rel => exact ⟨h + 1, j, f', by go_num, rfl, by omega, by omega, hjb, by omega, Nat.le_refl _, SV1, H3.out.symm⟩
  · obtain rfl : i = j := by omega
    have HI : Aside (i = bsr P (b - m) m b) := (bsr_end P f i).symm.trans heq.out
    clear heq
    have hlt' : ¬ (i : Int) < (i : Int) := by omega
    have ei : (i : Int) - 1 = ((i - 1 : Nat) : Int) := by omega
    clear hf hkx
    go_wp2_with fail
    go_loopg [13] (i - 1 - a) (fun kx s13 wr => ∃ (kk n : Nat) (dk : Array α), s13 = .int .i64 kk ∧ a ≤ kk ∧ kk + n = i - 1 ∧ n ≤ kx ∧ dk.size = d.size ∧ Aside (SWK enc k w0 blk 0 dk wr) ∧ Aside (shU n kk dk = shU (i - 1 - a) a d))
    case atStart => exact ⟨a, i - 1 - a, d, rfl, Nat.le_refl _, by omega, Nat.le_refl _, rfl, S1, rfl⟩
    case round =>
     clear S1
     obtain ⟨kk, n, dk, rfl, hak, hkn, hkx, hds, S1, heq⟩ := hrel
     by_cases hlt : kk < i - 1
     · have hlt2 : (kk : Int) < ((i - 1 : Nat) : Int) := by omega
       obtain ⟨n', rfl⟩ : ∃ n', n = n' + 1 := ⟨n - 1, by omega⟩
       have pa44 : (0 : Int) ≤ (kk : Int) := by omega
       have ba44 : (kk : Int) < (d.size : Int) := by omega
       have ra44 : IntKind.i64.wrap (kk : Int) = (kk : Int) := by rw [IntKind.wrap_i64]; omega
       have ea44 : ((kk : Int)).toNat = kk := by omega
       have pc44 : (0 : Int) ≤ (kk : Int) + 1 := by omega
       have bc44 : (kk : Int) + 1 < (d.size : Int) := by omega
       have rc44 : IntKind.i64.wrap ((kk : Int) + 1) = (kk : Int) + 1 := by rw [IntKind.wrap_i64]; omega
       have ec44 : ((kk : Int) + 1).toNat = kk + 1 := by omega
       have S2 : Aside (SWK enc k w0 blk 0 (swp dk kk (kk + 1)) ((wr.drew.setCells blk (0 + kk * k) (enc dk[kk + 1]!)).setCells blk (0 + (kk + 1) * k) (enc dk[kk]!))) := S1.out.swapped R kk (kk + 1) (by omega) (by omega)
       have l44a := S1.out.ld1 R (by omega) Tryz.prog kk (by omega)
       have l44b := S1.out.ld1 R (by omega) Tryz.prog (kk + 1) (by omega)
       have s44a := S1.out.st1 R (by omega) Tryz.prog kk (by omega) dk[kk + 1]!
       have s44b := S1.out.st2 R (by omega) Tryz.prog kk (kk + 1) (by omega) (by omega) dk[kk + 1]! dk[kk]!
       have n44a : (enc dk[kk]!).length = k := R.hk _
       have n44b : (enc dk[kk + 1]!).length = k := R.hk _
       generalize enc dk[kk]! = cI44 at S2 l44a s44b n44a
       generalize enc dk[kk + 1]! = cJ44 at S2 l44b s44a s44b n44b
       simp only [Nat.zero_add] at l44a l44b s44a s44b S2
       clear S1
       go_wp2_with fail
       go_big_region_o
       clear l44a l44b s44a s44b
       generalize (wr.drew.setCells blk (kk * k) cJ44).setCells blk ((kk + 1) * k) cI44 = w2 at S2 ⊢
       go_wp2
       go_roundg n'
       case measure => omega
       case rel => exact ⟨kk + 1, n', swp dk kk (kk + 1), by go_num, by omega, by omega, Nat.le_refl _, by rw [size_swp]; exact hds, S2, heq.out⟩
     · obtain rfl : n = 0 := by omega
       have hlt2 : ¬ (kk : Int) < ((i - 1 : Nat) : Int) := by omega
       go_wp2
       refine bodyPost_ret (results_none rfl _ _ _) rfl ?_
       refine ⟨rfl, ?_⟩
       have h1 := heq.out
       rw [shU] at h1
       unfold symA
       rw [← HP.out, ← HI.out, ← h1]
       exact S1.out
end Go.Proofs.YtapgnaimbgjcnaaGreatDoor
/-
  slices.symMergeCmpFunc at events where the right part is one element.
-/
namespace Go.Proofs.YtapgnaimbgjcnaaGreatDoor
open Go Go.RowKit Go.Lib Go.Sort
variable {α : Type} [Inhabited α]
def symB (lt : α → α → Bool) (a m : Nat) (d : Array α) : Array α := shD (m - bsr (fun h => !lt d[m]! d[h]!) (m - a) a m) m d
set_option maxHeartbeats 4000000 in
set_option maxRecDepth 1000000 in
theorem symB_calls (k : Nat) (aE : ∀ w, (isAgg 78).run Tryz.prog w = .ok true w) (zE : ∀ w, (Go.sizeOf 78).run Tryz.prog w = .ok k w) (enc : α → List Value) (cf : α → α → Int) (g : Nat) (cb : Array Value) (blk cap a m b : Nat) (d0 d : Array α) (w0 w : World)
 (eg : ∀ args w, (callFunc g args).run Tryz.prog w = .ok (.enter g args) w) (hcmp : CmpLays Tryz.prog g cb enc k cf blk 0 d0.size w0)
 (R : RowK enc k w0 blk 0 d0) (hs : d0.size = d.size) (S : SWK enc k w0 blk 0 d w) (hne : ¬ m = a + 1) (ham : a ≤ m) (hbm : b = m + 1) (hb : b ≤ d.size) (hsz : d.size < 2305843009213693952) :
 Calls Tryz.prog 156 #[.slice (some ⟨blk, 0, none⟩) d.size cap, .int .i64 a, .int .i64 m, .int .i64 b, .func (.func g) #[] cb] w fun e w' => e = .returned (.tuple #[]) ∧ SWK enc k w0 blk 0 (symB (ltOf cf) a m d) w' := by
 have mixed : Tryz.prog.follows Departure.mixedOrders = true := by kernel_rfl
 have S0 : Aside (SWK enc k w0 blk 0 d w) := S
 have HC : Aside (CmpLays Tryz.prog g cb enc k cf blk 0 d0.size w0) := hcmp
 clear S hcmp
 have e1 : ¬ (m : Int) - (a : Int) = 1 := by omega
 have e2 : (b : Int) - (m : Int) = 1 := by omega
 have e3 : ((m : Int) - (a : Int) == 1) = false := by simpa using e1
 have hmb : m < b := by omega
 clear hne hbm
 obtain ⟨P, hP⟩ : ∃ P : Nat → Bool, P = fun h => !ltOf cf d[m]! d[h]! := ⟨_, rfl⟩
 have HP : Aside (P = fun h => !ltOf cf d[m]! d[h]!) := hP
 clear hP
 go_enter Tryz.func156, Tryz.ntmps156
 go_wp2_with fail
 go_loopg [14, 15] (m - a) (fun kx s14 s15 wr => ∃ (i j f : Nat), s14 = .int .i64 i ∧ s15 = .int .i64 j ∧ a ≤ i ∧ i ≤ j ∧ j ≤ m ∧ j - i ≤ f ∧ f ≤ kx ∧ Aside (SWK enc k w0 blk 0 d wr) ∧ Aside (bsr P f i j = bsr P (m - a) a m))
 case atStart => exact ⟨a, m, m - a, rfl, rfl, Nat.le_refl _, ham, Nat.le_refl _, Nat.le_refl _, Nat.le_refl _, S0, rfl⟩
 case round =>
  clear S0
  obtain ⟨i, j, f, rfl, rfl, hmi, hij, hjb, hf, hkx, S1, heq⟩ := hrel
  by_cases hlt : i < j
  · have hlt' : (i : Int) < (j : Int) := by omega
    obtain ⟨f', rfl⟩ : ∃ f', f = f' + 1 := ⟨f - 1, by omega⟩
    have h1 := heq.out
    rw [bsr, if_pos hlt] at h1
    obtain ⟨h, hh⟩ : ∃ h, (i + j) / 2 = h := ⟨_, rfl⟩
    rw [hh] at h1
    have eh : ((i : Int) + (j : Int)) / 2 = (h : Int) := by omega
    have hih : i ≤ h := by omega
    have hhj : h < j := by omega
    have h2 := Lib.hid h1
    clear h1 heq hh
    have pa44 : (0 : Int) ≤ (m : Int) := by omega
    have ba44 : (m : Int) < (d.size : Int) := by omega
    have ra44 : IntKind.i64.wrap (m : Int) = (m : Int) := by rw [IntKind.wrap_i64]; omega
    have ea44 : ((m : Int)).toNat = m := by omega
    have pc44 : (0 : Int) ≤ (h : Int) := by omega
    have bc44 : (h : Int) < (d.size : Int) := by omega
    have rc44 : IntKind.i64.wrap (h : Int) = (h : Int) := by rw [IntKind.wrap_i64]; omega
    have ec44 : ((h : Int)).toNat = h := by omega
    obtain ⟨x44, hx44⟩ : ∃ x, x = d[m]! := ⟨_, rfl⟩
    obtain ⟨y44, hy44⟩ : ∃ x, x = d[h]! := ⟨_, rfl⟩
    have l44a := S1.out.ld R (by omega) Tryz.prog m (by omega)
    have l44b := S1.out.ld R (by omega) Tryz.prog h (by omega)
    rw [← hx44] at l44a
    rw [← hy44] at l44b
    have hc44 := S1.out.cmp HC.out (by omega) x44 y44
    have hPh : P h = !decide (cf x44 y44 < 0) := by rw [HP.out, hx44, hy44]; rfl
    rw [hPh] at h2
    clear hPh hx44 hy44
    simp only [Nat.zero_add] at l44a l44b
    cases hd44 : decide (cf x44 y44 < 0)
    · have hv44 : ¬ cf x44 y44 < 0 := of_decide_eq_false hd44
      have H3 := Lib.hid (h2.out.symm.trans (by rw [hd44]))
      clear h2
      go_wp2_with fail
      go_quiet_grown (first | (go_at_fn g; refine Calls.grown_of (hc44 _ _)))
      have SV1 : Aside (SWK enc k w0 blk 0 d (grow (wr.drewN nq) osq)) := S1.out.grown nq osq
      clear l44a l44b hc44 S1
      generalize grow (wr.drewN nq) osq = wv1 at SV1 ⊢
      clear nq osq
      go_wp2
      go_roundg f'
      case measure => omega
      case rel => exact ⟨h + 1, j, f', by go_num, rfl, by omega, by omega, hjb, by omega, Nat.le_refl _, SV1, H3.out.symm⟩
    · have hv44 : cf x44 y44 < 0 := of_decide_eq_true hd44
      have H3 := Lib.hid (h2.out.symm.trans (by rw [hd44]))
      clear h2
      go_wp2_with fail
      go_quiet_grown (first | (go_at_fn g; refine Calls.grown_of (hc44 _ _)))
      have SV1 : Aside (SWK enc k w0 blk 0 d (grow (wr.drewN nq) osq)) := S1.out.grown nq osq
      clear l44a l44b hc44 S1
      generalize grow (wr.drewN nq) osq = wv1 at SV1 ⊢
      clear nq osq
      go_wp2
      go_roundg f'
      case measure => omega
      case rel => exact ⟨i, h, f', rfl, rfl, hmi, hih, by omega, by omega, Nat.le_refl _, SV1, H3.out.symm⟩
  · obtain rfl : i = j := by omega
    have HI : Aside (i = bsr P (m - a) a m) := (bsr_end P f i).symm.trans heq.out
    clear heq
    have hlt' : ¬ (i : Int) < (i : Int) := by omega
    clear hf hkx
    go_wp2_with fail
    go_loopg [17] (m - i) (fun kx s17 wr => ∃ (kk n : Nat) (dk : Array α), s17 = .int .i64 kk ∧ kk = i + n ∧ kk ≤ m ∧ n ≤ kx ∧ dk.size = d.size ∧ Aside (SWK enc k w0 blk 0 dk wr) ∧ Aside (shD n kk dk = shD (m - i) m d))
    case atStart => exact ⟨m, m - i, d, rfl, by omega, Nat.le_refl _, Nat.le_refl _, rfl, S1, rfl⟩
    case round =>
     clear S1
     obtain ⟨kk, n, dk, rfl, hkn0, hkm, hkx, hds, S1, heq⟩ := hrel
     have hkn : Aside (kk = i + n) := hkn0
     by_cases hlt : i < kk
     · have hlt2 : (i : Int) < (kk : Int) := by omega
       obtain ⟨n', rfl⟩ : ∃ n', n = n' + 1 := ⟨n - 1, by omega⟩
       have hn1 : n' = kk - 1 - i := by omega
       have HN := Lib.hid hn1
       clear hkn0 hn1
       have pa44 : (0 : Int) ≤ (kk : Int) := by omega
       have ba44 : (kk : Int) < (d.size : Int) := by omega
       have ra44 : IntKind.i64.wrap (kk : Int) = (kk : Int) := by rw [IntKind.wrap_i64]; omega
       have ea44 : ((kk : Int)).toNat = kk := by omega
       have pc44 : (0 : Int) ≤ (kk : Int) - 1 := by omega
       have bc44 : (kk : Int) - 1 < (d.size : Int) := by omega
       have rc44 : IntKind.i64.wrap ((kk : Int) - 1) = (kk : Int) - 1 := by rw [IntKind.wrap_i64]; omega
       have ec44 : ((kk : Int) - 1).toNat = kk - 1 := by omega
       have S2 : Aside (SWK enc k w0 blk 0 (swp dk kk (kk - 1)) ((wr.drew.setCells blk (0 + kk * k) (enc dk[kk - 1]!)).setCells blk (0 + (kk - 1) * k) (enc dk[kk]!))) := S1.out.swapped R kk (kk - 1) (by omega) (by omega)
       have l44a := S1.out.ld1 R (by omega) Tryz.prog kk (by omega)
       have l44b := S1.out.ld1 R (by omega) Tryz.prog (kk - 1) (by omega)
       have s44a := S1.out.st1 R (by omega) Tryz.prog kk (by omega) dk[kk - 1]!
       have s44b := S1.out.st2 R (by omega) Tryz.prog kk (kk - 1) (by omega) (by omega) dk[kk - 1]! dk[kk]!
       have n44a : (enc dk[kk]!).length = k := R.hk _
       have n44b : (enc dk[kk - 1]!).length = k := R.hk _
       generalize enc dk[kk]! = cI44 at S2 l44a s44b n44a
       generalize enc dk[kk - 1]! = cJ44 at S2 l44b s44a s44b n44b
       simp only [Nat.zero_add] at l44a l44b s44a s44b S2
       clear S1
       go_wp2_with fail
       go_big_region_o
       clear l44a l44b s44a s44b
       generalize (wr.drew.setCells blk (kk * k) cJ44).setCells blk ((kk - 1) * k) cI44 = w2 at S2 ⊢
       go_wp2
       go_roundg n'
       case measure => omega
       case rel =>
        have := HN.out
        exact ⟨kk - 1, n', swp dk kk (kk - 1), by go_num, by omega, by omega, Nat.le_refl _, by rw [size_swp]; exact hds, S2, heq.out⟩
     · obtain rfl : n = 0 := by omega
       have hlt2 : ¬ (i : Int) < (kk : Int) := by omega
       clear hkn0
       go_wp2
       refine bodyPost_ret (results_none rfl _ _ _) rfl ?_
       refine ⟨rfl, ?_⟩
       have h1 := heq.out
       rw [shD] at h1
       unfold symB
       rw [← HP.out, ← HI.out, ← h1]
       exact S1.out
end Go.Proofs.YtapgnaimbgjcnaaGreatDoor

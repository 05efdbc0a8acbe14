/-
  slices.symMergeCmpFunc at events, the whole: by induction on the parts' length.
-/
import Derived.Test.YtapgnaimbgjcnaaGreatDoorZSwp
import Derived.Deep.DeepCutAuto
import Derived.Shelf.SlSortCmp.QuietGrown
import Derived.Lib.Hide
namespace Go.Proofs.YtapgnaimbgjcnaaGreatDoor
open Go Go.RowKit Go.Lib Go.Sort
variable {α : Type} [Inhabited α]
def symS (mid m b a : Nat) : Nat := if mid < m then mid + m - b else a
def symE (mid m : Nat) : Nat := if mid < m then mid else m
def symI (lt : α → α → Bool) (a m b mid : Nat) (d : Array α) : Nat := bsr (fun c => !lt d[mid + m - 1 - c]! d[c]!) (symE mid m - symS mid m b a) (symS mid m b a) (symE mid m)
def symT (s m e : Nat) (d : Array α) : Array α := if s < m ∧ m < e then rotR (e - s) (m - s) m (e - m) d else d
def symR (lt : α → α → Bool) : Nat → Nat → Nat → Nat → Array α → Array α
 | 0, _, _, _, d => d
 | f + 1, a, m, b, d => if m = a + 1 then symA lt a m b d else if b = m + 1 then symB lt a m d else
   let mid := (a + b) / 2
   let s := symI lt a m b mid d
   let e := mid + m - s
   let d1 := symT s m e d
   let d2 := if a < s ∧ s < mid then symR lt f a s mid d1 else d1
   if mid < e ∧ e < b then symR lt f mid e b d2 else d2
theorem symT_size (s m e : Nat) (d : Array α) : (symT s m e d).size = d.size := by
 unfold symT
 split
 · rw [rotR_size]
 · rfl
theorem symR_size (lt : α → α → Bool) : ∀ (f a m b : Nat) (d : Array α), (symR lt f a m b d).size = d.size
 | 0, _, _, _, _ => rfl
 | f + 1, a, m, b, d => by
   rw [symR]
   split
   · unfold symA; rw [shU_size]
   · split
     · unfold symB; rw [shD_size]
     · simp only
       split
       · rw [symR_size]
         split
         · rw [symR_size, symT_size]
         · rw [symT_size]
       · split
         · rw [symR_size, symT_size]
         · rw [symT_size]
theorem symR_big {lt : α → α → Bool} {f a m b mid s e : Nat} {d d1 d2 : Array α} (h1 : ¬ m = a + 1) (h2 : ¬ b = m + 1) (k1 : (a + b) / 2 = mid) (k2 : symI lt a m b mid d = s) (k3 : mid + m - s = e) (k4 : symT s m e d = d1) (k5 : (if a < s ∧ s < mid then symR lt f a s mid d1 else d1) = d2) : symR lt (f + 1) a m b d = if mid < e ∧ e < b then symR lt f mid e b d2 else d2 := by
 subst k1 k2 k3 k4 k5
 rw [symR, if_neg h1, if_neg h2]
set_option maxHeartbeats 8000000 in
set_option maxRecDepth 1000000 in
theorem symMerge_calls (k : Nat) (aE : ∀ w, (isAgg 78).run Tryz.prog w = .ok true w) (zE : ∀ w, (Go.sizeOf 78).run Tryz.prog w = .ok k w) (enc : α → List Value) (cf : α → α → Int) (g : Nat) (cb : Array Value) (blk cap : Nat) (d0 : Array α) (w0 : World)
 (eg : ∀ args w, (callFunc g args).run Tryz.prog w = .ok (.enter g args) w) (hcmp : CmpLays Tryz.prog g cb enc k cf blk 0 d0.size w0)
 (R : RowK enc k w0 blk 0 d0) (hsz : d0.size < 2305843009213693952) : ∀ (f a m b : Nat) (d : Array α) (w : World), b - a ≤ f → a < m → m < b → b ≤ d0.size → d.size = d0.size → SWK enc k w0 blk 0 d w →
 Calls Tryz.prog 156 #[.slice (some ⟨blk, 0, none⟩) d0.size cap, .int .i64 a, .int .i64 m, .int .i64 b, .func (.func g) #[] cb] w fun e w' => e = .returned (.tuple #[]) ∧ SWK enc k w0 blk 0 (symR (ltOf cf) f a m b d) w' := by
 intro f
 induction f with
 | zero => intro a m b d w h1 h2 h3; omega
 | succ f ih =>
 intro a m b d w hf ham hmb hb hd S
 by_cases h1 : m = a + 1
 · have h := symA_calls k aE zE enc cf g cb blk cap a m b d0 d w0 w eg hcmp R (by omega) S h1 (by omega) (by omega) (by omega)
   rw [hd] at h
   refine h.mono ?_
   rintro e w' ⟨he, hS⟩
   refine ⟨he, ?_⟩
   rw [symR, if_pos h1]
   exact hS
 by_cases h2 : b = m + 1
 · have h := symB_calls k aE zE enc cf g cb blk cap a m b d0 d w0 w eg hcmp R (by omega) S h1 (by omega) h2 (by omega) (by omega)
   rw [hd] at h
   refine h.mono ?_
   rintro e w' ⟨he, hS⟩
   refine ⟨he, ?_⟩
   rw [symR, if_neg h1, if_pos h2]
   exact hS
 have IH : Aside (∀ (a m b : Nat) (d : Array α) (w : World), b - a ≤ f → a < m → m < b → b ≤ d0.size → d.size = d0.size → SWK enc k w0 blk 0 d w →
  Calls Tryz.prog 156 #[.slice (some ⟨blk, 0, none⟩) d0.size cap, .int .i64 a, .int .i64 m, .int .i64 b, .func (.func g) #[] cb] w fun e w' => e = .returned (.tuple #[]) ∧ SWK enc k w0 blk 0 (symR (ltOf cf) f a m b d) w') := ih
 have HRT : Aside (∀ (p q r : Nat) (dk : Array α) (W : World), SWK enc k w0 blk 0 dk W → dk.size = d0.size → p < q → q < r → r ≤ d0.size → Calls Tryz.prog 204 #[.slice (some ⟨blk, 0, none⟩) d0.size cap, .int .i64 p, .int .i64 q, .int .i64 r, .func (.func g) #[] cb] W fun e w' => e = .returned (.tuple #[]) ∧ SWK enc k w0 blk 0 (rotR (r - p) (q - p) q (r - q) dk) w') := fun p q r dk W h hdk hpq hqr hr => by
  have := rotate_calls k aE zE enc g cb blk cap p q r d0 dk w0 W R (by omega) h hpq hqr (by omega) (by omega)
  rw [hdk] at this
  exact this
 have HSYM : Aside (∀ (mid s e : Nat) (d1 d2 : Array α), (a + b) / 2 = mid → symI (ltOf cf) a m b mid d = s → mid + m - s = e → symT s m e d = d1 → (if a < s ∧ s < mid then symR (ltOf cf) f a s mid d1 else d1) = d2 → symR (ltOf cf) (f + 1) a m b d = if mid < e ∧ e < b then symR (ltOf cf) f mid e b d2 else d2) := fun mid s e d1 d2 k1 k2 k3 k4 k5 => symR_big h1 h2 k1 k2 k3 k4 k5
 have mixed : Tryz.prog.follows Departure.mixedOrders = true := by kernel_rfl
 clear ih
 have S0 : Aside (SWK enc k w0 blk 0 d w) := S
 have HC : Aside (CmpLays Tryz.prog g cb enc k cf blk 0 d0.size w0) := hcmp
 clear S hcmp
 obtain ⟨mid, hmid⟩ : ∃ mid, (a + b) / 2 = mid := ⟨_, rfl⟩
 have HMID := Lib.hid hmid
 have emid : ((a : Int) + (b : Int)) / 2 = (mid : Int) := by omega
 have hm1 : a < mid := by omega
 have hm2 : mid < b := by omega
 have hmm : 2 * mid ≤ a + b ∧ a + b ≤ 2 * mid + 1 := by omega
 have e1 : ¬ (m : Int) - (a : Int) = 1 := by omega
 have e2 : ¬ (b : Int) - (m : Int) = 1 := by omega
 have e3 : ((m : Int) - (a : Int) == 1) = false := by simpa using e1
 have e4 : ((b : Int) - (m : Int) == 1) = false := by simpa using e2
 obtain ⟨s0, hs0⟩ : ∃ s0, symS mid m b a = s0 := ⟨_, rfl⟩
 obtain ⟨r0, hr0⟩ : ∃ r0, symE mid m = r0 := ⟨_, rfl⟩
 have bs0 : a ≤ s0 ∧ s0 ≤ r0 ∧ r0 ≤ m ∧ r0 ≤ mid ∧ mid + m ≤ b + s0 := by
  unfold symS at hs0
  unfold symE at hr0
  split at hs0 <;> split at hr0 <;> omega
 obtain ⟨b1, b2, b3, b4, b5⟩ := bs0
 obtain ⟨pp, hpp⟩ : ∃ pp, mid + m - 1 = pp := ⟨_, rfl⟩
 have epp : (mid : Int) + (m : Int) - 1 = (pp : Int) := by omega
 obtain ⟨P, hP⟩ : ∃ P : Nat → Bool, P = fun c => !ltOf cf d[pp - c]! d[c]! := ⟨_, rfl⟩
 have HP : Aside (P = fun c => !ltOf cf d[pp - c]! d[c]!) := hP
 obtain ⟨st, hst⟩ : ∃ st, symI (ltOf cf) a m b mid d = st := ⟨_, rfl⟩
 have HST : Aside (bsr P (r0 - s0) s0 r0 = st) := by
  show _ = _
  rw [← hst, hP]
  unfold symI
  rw [hs0, hr0, hpp]
 have HI := Lib.hid hst
 have HS0 := Lib.hid hs0
 have HR0 := Lib.hid hr0
 clear hP hst hs0 hr0 h1 h2 hmid
 go_enter Tryz.func156, Tryz.ntmps156
 go_upto_if 140 with (fail)
 go_cut [20, 21] (fun s20 s21 V => s20 = .int .i64 s0 ∧ s21 = .int .i64 r0 ∧ V = w)
 case first =>
  by_cases hlt : mid < m
  · have hlt' : (mid : Int) < (m : Int) := by omega
    have k1 : s0 = mid + m - b := by have := HS0.out; unfold symS at this; rw [if_pos hlt] at this; omega
    have k2 : r0 = mid := by have := HR0.out; unfold symE at this; rw [if_pos hlt] at this; omega
    have K1 := Lib.hid k1
    have K2 := Lib.hid k2
    clear k1 k2
    go_wp2_with fail
    go_meet
    have k1 := K1.out
    have k2 := K2.out
    exact ⟨by congr 1; omega, by rw [k2], rfl⟩
  · have hlt' : ¬ (mid : Int) < (m : Int) := by omega
    have k1 : s0 = a := by have := HS0.out; unfold symS at this; rw [if_neg hlt] at this; omega
    have k2 : r0 = m := by have := HR0.out; unfold symE at this; rw [if_neg hlt] at this; omega
    have K1 := Lib.hid k1
    have K2 := Lib.hid k2
    clear k1 k2
    go_wp2_with fail
    go_meet
    have k1 := K1.out
    have k2 := K2.out
    exact ⟨by rw [k1], by rw [k2], rfl⟩
 case rest =>
  obtain ⟨rfl, rfl, rfl⟩ := hcut
  clear e1 e2 e3 e4 emid
  go_wp2_with fail
  go_loopg [20, 21] (r0 - s0) (fun kx s20 s21 wr => ∃ (i j fu : Nat), s20 = .int .i64 i ∧ s21 = .int .i64 j ∧ s0 ≤ i ∧ i ≤ j ∧ j ≤ r0 ∧ j - i ≤ fu ∧ fu ≤ kx ∧ Aside (SWK enc k w0 blk 0 d wr) ∧ Aside (bsr P fu i j = st))
  case atStart => exact ⟨s0, r0, r0 - s0, rfl, rfl, Nat.le_refl _, b2, Nat.le_refl _, Nat.le_refl _, Nat.le_refl _, S0, HST⟩
  case round =>
   clear S0
   obtain ⟨i, j, fu, rfl, rfl, hsi, hij, hjr, hfu, hkx, S1, heq⟩ := hrel
   by_cases hlt : i < j
   · have hlt' : (i : Int) < (j : Int) := by omega
     obtain ⟨f', rfl⟩ : ∃ f', fu = f' + 1 := ⟨fu - 1, by omega⟩
     have h1 := heq.out
     rw [bsr, if_pos hlt] at h1
     obtain ⟨h, hh⟩ : ∃ h, (i + j) / 2 = h := ⟨_, rfl⟩
     rw [hh] at h1
     have eh : ((i : Int) + (j : Int)) / 2 = (h : Int) := by omega
     have hih : i ≤ h := by omega
     have hhj : h < j := by omega
     have h2 := Lib.hid h1
     clear h1 heq hh
     obtain ⟨q, hq⟩ : ∃ q, pp - h = q := ⟨_, rfl⟩
     have eq4 : (pp : Int) - (h : Int) = (q : Int) := by omega
     have eq5 : IntKind.i64.wrap ((pp : Int) - (h : Int)) = (q : Int) := by rw [IntKind.wrap_i64]; omega
     have pa44 : (0 : Int) ≤ (q : Int) := by omega
     have ba44 : (q : Int) < (d0.size : Int) := by omega
     have ra44 : IntKind.i64.wrap (q : Int) = (q : Int) := by rw [IntKind.wrap_i64]; omega
     have ea44 : ((q : Int)).toNat = q := by omega
     have hqd : q < d.size := by omega
     have pc44 : (0 : Int) ≤ (h : Int) := by omega
     have bc44 : (h : Int) < (d0.size : Int) := by omega
     have rc44 : IntKind.i64.wrap (h : Int) = (h : Int) := by rw [IntKind.wrap_i64]; omega
     have ec44 : ((h : Int)).toNat = h := by omega
     obtain ⟨x44, hx44⟩ : ∃ x, x = d[q]! := ⟨_, rfl⟩
     obtain ⟨y44, hy44⟩ : ∃ x, x = d[h]! := ⟨_, rfl⟩
     have l44a := S1.out.ld R (by omega) Tryz.prog q (by omega)
     have l44b := S1.out.ld R (by omega) Tryz.prog h (by omega)
     rw [← hx44] at l44a
     rw [← hy44] at l44b
     have hc44 := S1.out.cmp HC.out (by omega) x44 y44
     have hPh : P h = !decide (cf x44 y44 < 0) := by rw [HP.out, hx44, hy44, ← hq]; rfl
     rw [hPh] at h2
     clear hPh hx44 hy44 hqd hq
     simp only [Nat.zero_add] at l44a l44b
     cases hd44 : decide (cf x44 y44 < 0)
     · have hv44 : ¬ cf x44 y44 < 0 := of_decide_eq_false hd44
       have H3 := Lib.hid (h2.out.symm.trans (by rw [hd44]))
       clear h2
       go_wp2_with fail
       go_quiet_grown (first | (go_at_fn g; refine Calls.grown_of (hc44 _ _)))
       have SV1 : Aside (SWK enc k w0 blk 0 d (grow (wr.drewN nq) osq)) := S1.out.grown nq osq
       clear l44a l44b hc44 S1
       generalize grow (wr.drewN nq) osq = wv1 at SV1 ⊢
       clear nq osq
       go_wp2
       go_roundg f'
       case measure => omega
       case rel => exact ⟨h + 1, j, f', by go_num, rfl, by omega, by omega, hjr, by omega, Nat.le_refl _, SV1, H3.out.symm⟩
     · have hv44 : cf x44 y44 < 0 := of_decide_eq_true hd44
       have H3 := Lib.hid (h2.out.symm.trans (by rw [hd44]))
       clear h2
       go_wp2_with fail
       go_quiet_grown (first | (go_at_fn g; refine Calls.grown_of (hc44 _ _)))
       have SV1 : Aside (SWK enc k w0 blk 0 d (grow (wr.drewN nq) osq)) := S1.out.grown nq osq
       clear l44a l44b hc44 S1
       generalize grow (wr.drewN nq) osq = wv1 at SV1 ⊢
       clear nq osq
       go_wp2
       go_roundg f'
       case measure => omega
       case rel => exact ⟨i, h, f', rfl, rfl, hsi, hih, by omega, by omega, Nat.le_refl _, SV1, H3.out.symm⟩
   · obtain rfl : i = j := by omega
     obtain rfl : i = st := (bsr_end P fu i).symm.trans heq.out
     have hlt' : ¬ (i : Int) < (i : Int) := by omega
     clear heq hfu hkx HC HP
     obtain ⟨en, hen⟩ : ∃ en, mid + m - i = en := ⟨_, rfl⟩
     have HEN := Lib.hid hen
     have een : (mid : Int) + (m : Int) - (i : Int) = (en : Int) := by omega
     have hn1 : en ≤ b := by omega
     have hn2 : mid ≤ en := by omega
     have hn3 : m ≤ en := by omega
     obtain ⟨d1, hd1⟩ : ∃ d1, symT i m en d = d1 := ⟨_, rfl⟩
     have hz1 : d1.size = d0.size := by rw [← hd1, symT_size]; exact hd
     have HD1 := Lib.hid hd1
     clear hd1 hen
     obtain ⟨B1, hB1⟩ : ∃ B, decide (i < m ∧ m < en) = B := ⟨_, rfl⟩
     have HB1 := Lib.hid hB1
     clear hB1
     go_upto_region 39 with (fail)
     go_cut [185] (fun sB V => sB = .bool B1 ∧ V = wr)
     case first =>
      by_cases hA1 : i < m
      · have hA2 : (i : Int) < (m : Int) := by omega
        by_cases hA3 : m < en
        · have hA4 : (m : Int) < (en : Int) := by omega
          have HV := Lib.hid (show B1 = true by rw [← HB1.out]; exact decide_eq_true ⟨hA1, hA3⟩)
          go_wp2_with fail
          go_meet
          exact ⟨by rw [HV.out], rfl⟩
        · have hA4 : ¬ (m : Int) < (en : Int) := by omega
          have HV := Lib.hid (show B1 = false by rw [← HB1.out]; exact decide_eq_false (fun h => hA3 h.2))
          go_wp2_with fail
          go_meet
          exact ⟨by rw [HV.out], rfl⟩
      · have hA2 : ¬ (i : Int) < (m : Int) := by omega
        have HV := Lib.hid (show B1 = false by rw [← HB1.out]; exact decide_eq_false (fun h => hA1 h.1))
        go_wp2_with fail
        go_meet
        exact ⟨by rw [HV.out], rfl⟩
     obtain ⟨rfl, rfl⟩ := hcut
     go_upto_if 185 with (fail)
     go_cut [] (fun V => Aside (SWK enc k w0 blk 0 d1 V))
     case first =>
      cases hB : B1
      · have hA : ¬ (i < m ∧ m < en) := of_decide_eq_false (HB1.out.trans hB)
        have HD := Lib.hid (show d1 = d by rw [← HD1.out]; unfold symT; rw [if_neg hA])
        have S3 : Aside (SWK enc k w0 blk 0 d1 wc) := by rw [HD.out]; exact S1
        clear hA
        subst hB
        go_wp2_with fail
        go_meet
        exact S3
      · have hA : i < m ∧ m < en := of_decide_eq_true (HB1.out.trans hB)
        have HD := Lib.hid (show d1 = rotR (en - i) (m - i) m (en - m) d by rw [← HD1.out]; unfold symT; rw [if_pos hA])
        have HRC := Lib.hid (HRT.out i m en d wc S1.out hd hA.1 hA.2 (by omega))
        clear hA
        subst hB
        go_wp2_with fail
        refine HRC.out.mono ?_
        rintro e w1 ⟨rfl, S2⟩
        rw [← HD.out] at S2
        have S3 : Aside (SWK enc k w0 blk 0 d1 w1) := S2
        clear S2
        go_wp2_with fail
        go_meet
        exact S3
     case rest => as_aux_lemma =>
      have S2 := hcut
      clear hcut S1 HRT
      obtain ⟨d2, hd2⟩ : ∃ d2, (if a < i ∧ i < mid then symR (ltOf cf) f a i mid d1 else d1) = d2 := ⟨_, rfl⟩
      have hz2 : d2.size = d0.size := by
       rw [← hd2]
       split
       · rw [symR_size]; exact hz1
       · exact hz1
      have HD2 := Lib.hid hd2
      clear hd2
      obtain ⟨wo, hwo⟩ : ∃ z, z = wc := ⟨_, rfl⟩
      subst hwo
      obtain ⟨B2, hB2⟩ : ∃ B, decide (a < i ∧ i < mid) = B := ⟨_, rfl⟩
      have HB2 := Lib.hid hB2
      clear hB2
      go_upto_region 41 with (fail)
      go_cut [199] (fun sB V => sB = .bool B2 ∧ V = wo)
      case first =>
       by_cases hA1 : a < i
       · have hA2 : (a : Int) < (i : Int) := by omega
         by_cases hA3 : i < mid
         · have hA4 : (i : Int) < (mid : Int) := by omega
           have HV := Lib.hid (show B2 = true by rw [← HB2.out]; exact decide_eq_true ⟨hA1, hA3⟩)
           go_wp2_with fail
           go_meet
           exact ⟨by rw [HV.out], rfl⟩
         · have hA4 : ¬ (i : Int) < (mid : Int) := by omega
           have HV := Lib.hid (show B2 = false by rw [← HB2.out]; exact decide_eq_false (fun h => hA3 h.2))
           go_wp2_with fail
           go_meet
           exact ⟨by rw [HV.out], rfl⟩
       · have hA2 : ¬ (a : Int) < (i : Int) := by omega
         have HV := Lib.hid (show B2 = false by rw [← HB2.out]; exact decide_eq_false (fun h => hA1 h.1))
         go_wp2_with fail
         go_meet
         exact ⟨by rw [HV.out], rfl⟩
      obtain ⟨rfl, rfl⟩ := hcut
      go_upto_if 199 with (fail)
      go_cut [] (fun V => Aside (SWK enc k w0 blk 0 d2 V))
      case first =>
       cases hB : B2
       · have hA : ¬ (a < i ∧ i < mid) := of_decide_eq_false (HB2.out.trans hB)
         have HD := Lib.hid (show d2 = d1 by rw [← HD2.out, if_neg hA])
         have S3 : Aside (SWK enc k w0 blk 0 d2 wc) := by rw [HD.out]; exact S2
         clear hA
         subst hB
         go_wp2_with fail
         go_meet
         exact S3
       · have hA : a < i ∧ i < mid := of_decide_eq_true (HB2.out.trans hB)
         have HD := Lib.hid (show d2 = symR (ltOf cf) f a i mid d1 by rw [← HD2.out, if_pos hA])
         have HRC := Lib.hid (IH.out a i mid d1 wc (by omega) hA.1 hA.2 (by omega) hz1 S2.out)
         clear hA
         subst hB
         go_wp2_with fail
         refine HRC.out.mono ?_
         rintro e w1 ⟨rfl, S3⟩
         rw [← HD.out] at S3
         have S4 : Aside (SWK enc k w0 blk 0 d2 w1) := S3
         clear S3
         go_wp2_with fail
         go_meet
         exact S4
      case rest => as_aux_lemma =>
       have S3 := hcut
       have HE0 := Lib.hid (HSYM.out mid i en d1 d2 HMID.out HI.out HEN.out HD1.out HD2.out)
       clear hcut S2 HD2 HSYM HD1 HEN HI HMID
       obtain ⟨wo, hwo⟩ : ∃ z, z = wc := ⟨_, rfl⟩
       subst hwo
       obtain ⟨B3, hB3⟩ : ∃ B, decide (mid < en ∧ en < b) = B := ⟨_, rfl⟩
       have HB3 := Lib.hid hB3
       clear hB3
       go_upto_region 43 with (fail)
       go_cut [213] (fun sB V => sB = .bool B3 ∧ V = wo)
       case first =>
        by_cases hA1 : mid < en
        · have hA2 : (mid : Int) < (en : Int) := by omega
          by_cases hA3 : en < b
          · have hA4 : (en : Int) < (b : Int) := by omega
            have HV := Lib.hid (show B3 = true by rw [← HB3.out]; exact decide_eq_true ⟨hA1, hA3⟩)
            go_wp2_with fail
            go_meet
            exact ⟨by rw [HV.out], rfl⟩
          · have hA4 : ¬ (en : Int) < (b : Int) := by omega
            have HV := Lib.hid (show B3 = false by rw [← HB3.out]; exact decide_eq_false (fun h => hA3 h.2))
            go_wp2_with fail
            go_meet
            exact ⟨by rw [HV.out], rfl⟩
        · have hA2 : ¬ (mid : Int) < (en : Int) := by omega
          have HV := Lib.hid (show B3 = false by rw [← HB3.out]; exact decide_eq_false (fun h => hA1 h.1))
          go_wp2_with fail
          go_meet
          exact ⟨by rw [HV.out], rfl⟩
       obtain ⟨rfl, rfl⟩ := hcut
       cases hB : B3
       · have hA : ¬ (mid < en ∧ en < b) := of_decide_eq_false (HB3.out.trans hB)
         have HE := Lib.hid (show symR (ltOf cf) (f + 1) a m b d = d2 by rw [HE0.out, if_neg hA])
         have HSE := Lib.hid (show SWK enc k w0 blk 0 (symR (ltOf cf) (f + 1) a m b d) wc by rw [HE.out]; exact S3.out)
         clear hA HE0 HE
         subst hB
         go_wp2_with fail
         go_end0
         exact ⟨rfl, HSE.out⟩
       · have hA : mid < en ∧ en < b := of_decide_eq_true (HB3.out.trans hB)
         have HE := Lib.hid (show symR (ltOf cf) (f + 1) a m b d = symR (ltOf cf) f mid en b d2 by rw [HE0.out, if_pos hA])
         have HRC := Lib.hid (IH.out mid en b d2 wc (by omega) hA.1 hA.2 (by omega) hz2 S3.out)
         clear hA HE0
         subst hB
         go_wp2_with fail
         refine HRC.out.mono ?_
         rintro e w1 ⟨rfl, S4⟩
         rw [← HE.out] at S4
         have S5 := Lib.hid S4
         clear S4
         go_wp2_with fail
         go_end0
         exact ⟨rfl, S5.out⟩
end Go.Proofs.YtapgnaimbgjcnaaGreatDoor

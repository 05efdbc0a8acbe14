/-
  The first elements of a list of structs. No Go text is named here.
-/
import Derived.Test.YtapgnaimbgjcnaaGreatDoorZFlat
import Derived.Test.YtapgnaimbgjcnaaGreatDoorZEvK
import Derived.Test.YtapgnaimbgjcnaaGreatDoorZSortRun0
import Derived.Test.YtapgnaimbgjcnaaGreatDoorZTk
import Derived.Deep.RegionHeld3
import Derived.RegionTactic
import Derived.Deep.DeepCutAuto
import Derived.Test.YtapgnaimbgjcnaaGreatDoorZDk5
import Derived.Test.YtapgnaimbgjcnaaGreatDoorZSlot3
import Derived.Test.YtapgnaimbgjcnaaGreatDoorZEv11
import Derived.Deep.CutBlock
import Derived.Test.YtapgnaimbgjcnaaGreatDoorZSlot1
import Derived.Sort.Defs
import Derived.Test.YtapgnaimbgjcnaaGreatDoorZBase
import Derived.Shelf.SlGeneric
import Derived.Shelf.SlIter.Nil
import Derived.Shelf.SortM.Plain
import Derived.Shelf.SortM.SortNone
import Derived.Test.YtapgnaimbgjcnaaGreatDoorProg
import Derived.Test.YtapgnaimbgjcnaaGreatDoorZSortMem
import Derived.Shelf.SlSortCmp.Insertion1
import Derived.Test.YtapgnaimbgjcnaaGreatDoorZBid3
import Derived.Shelf.SlSortCmp.InsertionK
import Derived.Shelf.SlSortCmp.NoneTotal
namespace Go.Proofs.YtapgnaimbgjcnaaGreatDoor
open Go Go.RowKit
theorem take_flat {α : Type} (f : α → List Value) (k : Nat) (hf : ∀ a, (f a).length = k) : ∀ (rs : List α) (m : Nat), (rs.take m).flatMap f = (rs.flatMap f).take (m * k)
 | [], m => by simp
 | r :: rs, 0 => by simp
 | r :: rs, m + 1 => by
   simp only [List.take_succ_cons, List.flatMap_cons, take_flat f k hf rs m]
   rw [List.take_append, hf, List.take_of_length_le (l := f r) (by rw [hf, Nat.add_mul]; omega), show (m + 1) * k - k = m * k by rw [Nat.add_mul]; omega]
theorem Rd.takeF {α : Type} {w : World} {b k n c : Nat} {A : Option Addr} {f : α → List Value} {rs : List α} (h : Rd w b k (.slice A n c) n (rs.flatMap f)) (hf : ∀ a, (f a).length = k) (m : Nat) (hm : m ≤ n) :
 Rd w b k (.slice A m c) m ((rs.take m).flatMap f) := by
 obtain ⟨A', c', e1, e2, e3, e4, e5, e6⟩ := h
 injection e1 with ea eb ec
 subst ea ec
 rw [take_flat f k hf]
 refine ⟨A, c, rfl, by omega, e3, by rw [List.length_take, e4]; exact Nat.min_eq_left (Nat.mul_le_mul_right _ hm), fun h => ⟨by have := (e5 h).1; omega, (e5 h).2⟩, fun hn => ?_⟩
 obtain ⟨g, o, f1, f2, f3⟩ := e6 (by omega)
 refine ⟨g, o, f1, f2, fun j u hu => f3 j u ?_⟩
 rw [List.getElem?_take] at hu
 split at hu
 · exact hu
 · cases hu
end Go.Proofs.YtapgnaimbgjcnaaGreatDoor
/-
  board.Would, splitref2.WouldOf and splitref2.PlaceOn by contracts.
-/
namespace Go.Proofs.YtapgnaimbgjcnaaGreatDoor
open Go Go.RowKit Go.Sort
attribute [local go_sem ↓] Go.wp_at_zero Go.wp_at_succ
theorem wld_step (rs : List Brw) (k : Nat) (hk : k < rs.length) (t : Int) : wldB (rs.take (k + 1)) t = wldB (rs.take k) t + (if rs[k].time < t then 1 else 0) := by
 unfold wldB
 rw [List.take_succ_eq_append_getElem hk, List.filter_append, List.length_append]
 by_cases h : rs[k].time < t
 · rw [if_pos h, List.filter_cons_of_pos (by simpa using h)]
   simp
   omega
 · rw [if_neg h, List.filter_cons_of_neg (by simpa using h)]
   simp
def wouldF (l : List Bev) (cat : ByteArray) (t u : Int) : Int := if bevsF l = 0 then (if keyBv cat = true then (if outB t 1 864000000 = true then 1 else if momB u = true then 0 else 1) else 5) else bevsF l
def WldR (l : List Bev) (cat : ByteArray) (t u F : Int) (w : World) (e : Ending) (w' : World) : Prop :=
 ∃ (rs : List Brw) (R : Int), RwIs l cat u F rs ∧ (F = 0 → R = wldB rs t) ∧ (F ≠ 0 → R = 0) ∧ e = .returned (.tuple #[.int .i64 R, .int .i64 F]) ∧ Below w.heap.size w w'
set_option maxRecDepth 100000 in
set_option maxHeartbeats 4000000 in
theorem would_calls (b : Nat) (A : Option Addr) (n c : Nat) (l : List Bev) (t u : Int) (cat : ByteArray) (w : World) (hr : Bevs w b A n c l) (hn : n ≤ 3000) (hc : cat.size ≤ 1000000) :
 Calls Tryz.prog 49 #[.slice A n c, .string cat, .int .i64 t, .int .i64 u] w (WldR l cat t u (wouldF l cat t u) w) := by
 have HA := Lib.hid (checkEvents_calls b A n c l w hr)
 have HK := Lib.hid (fun W => key_calls cat W (by unfold maxLen; omega))
 have HO := Lib.hid (fun W => out_calls t 1 864000000 W)
 have HM := Lib.hid (fun W => moment_calls u W)
 have HR := Lib.hid hr.rd
 obtain ⟨hl, _, _, _⟩ := hr.rd.cells bevC_len (by omega)
 have HL : Hid (l.length ≤ 3000) := Lib.hid (by omega)
 have HE : Hid (bevsF l = 0 → ∀ x ∈ l, EvK x) := Lib.hid (fun h => evK_all h)
 clear hl hr hc
 have hF : wouldF l cat t u = if bevsF l = 0 then (if keyBv cat = true then (if outB t 1 864000000 = true then 1 else if momB u = true then 0 else 1) else 5) else bevsF l := rfl
 have hkb : keyB cat.data.toList = keyBv cat := rfl
 rw [hkb] at HK
 obtain ⟨E, hE⟩ : ∃ E, bevsF l = E := ⟨_, rfl⟩
 obtain ⟨K, hK⟩ : ∃ K, keyBv cat = K := ⟨_, rfl⟩
 obtain ⟨O, hO⟩ : ∃ O, outB t 1 864000000 = O := ⟨_, rfl⟩
 obtain ⟨M, hM⟩ : ∃ M, momB u = M := ⟨_, rfl⟩
 rw [hE, hK, hO, hM] at hF
 rw [hE] at HA HE
 rw [hK] at HK
 rw [hO] at HO
 rw [hM] at HM
 rw [hF]
 clear hE hK hO hM hF hkb
 by_cases h0 : E = 0
 · subst h0
   have HE0 := Lib.hid (HE.out rfl)
   clear HE
   rw [if_pos rfl]
   cases K
   · rw [if_neg (by decide)]
     clear HO HM HR HL HE0
     go_enter Tryz.func49, Tryz.ntmps49
     go_wp2_with fail
     refine HA.out.mono ?_
     rintro e w1 ⟨rfl, h1⟩
     go_wp2_with fail
     refine (HK.out w1).mono ?_
     rintro e w2 ⟨rfl, rfl⟩
     go_wp2_with fail
     go_ret2
     exact ⟨[], 0, rwIs_no (by decide), fun h => absurd h (by decide), fun _ => rfl, rfl, h1⟩
   · rw [if_pos rfl]
     cases O
     · rw [if_neg (by decide)]
       cases M
       · rw [if_neg (by decide)]
         clear HR HL HE0
         go_enter Tryz.func49, Tryz.ntmps49
         go_wp2_with fail
         refine HA.out.mono ?_
         rintro e w1 ⟨rfl, h1⟩
         go_wp2_with fail
         refine (HK.out w1).mono ?_
         rintro e w2 ⟨rfl, rfl⟩
         go_wp2_with fail
         refine (HO.out w1).mono ?_
         rintro e w2 ⟨rfl, rfl⟩
         go_wp2_with fail
         refine (HM.out w1).mono ?_
         rintro e w2 ⟨rfl, rfl⟩
         go_wp2_with fail
         go_ret2
         exact ⟨[], 0, rwIs_no (by decide), fun h => absurd h (by decide), fun _ => rfl, rfl, h1⟩
       · rw [if_pos rfl]
         go_enter Tryz.func49, Tryz.ntmps49
         go_wp2_with fail
         refine HA.out.mono ?_
         rintro e w1 ⟨rfl, h1⟩
         go_wp2_with fail
         refine (HK.out w1).mono ?_
         rintro e w2 ⟨rfl, rfl⟩
         go_wp2_with fail
         refine (HO.out w1).mono ?_
         rintro e w2 ⟨rfl, rfl⟩
         go_wp2_with fail
         refine (HM.out w1).mono ?_
         rintro e w2 ⟨rfl, rfl⟩
         have hS1 := (Sq.start w).callB h1
         have HRA := Lib.hid (rowsAt_calls b A n c l u cat w1 (hS1.rd HR.out) HE0.out hn)
         have HS1 := Lib.hid hS1
         clear hS1 h1 HA HK HO HM HR HE0
         go_wp2_with fail
         refine HRA.out.mono ?_
         rintro e w2 ⟨gd, rfl, hb2, hcall⟩
         have HCL := Lib.hid hcall
         clear hcall hb2
         go_wp2_with fail
         refine HCL.out.mono ?_
         rintro e w3 ⟨A3, c3, ys, hY, rfl, hS3⟩
         have HRW := Lib.hid (rwIs_ok hY)
         obtain ⟨rs, hrs⟩ : ∃ rs, rowsB ys = rs := ⟨_, rfl⟩
         rw [hrs] at HRW hS3 ⊢
         have hS4 := (HS1.out.merge hS3).rebase HS1.out.size
         obtain ⟨q, hq⟩ : ∃ q, rs.length = q := ⟨_, rfl⟩
         rw [hq] at hS4 ⊢
         have HQ := Lib.hid hq
         have HAP : Hid (0 < q → ∃ g, A3 = some ⟨g, 0, none⟩) := Lib.hid (fun h0 => own_ptr (hS4.head : World.ownsRow _ _ _ _ _ _ _) h0)
         have HQZ : Hid (q ≤ 3000) := Lib.hid (by have := HL.out; have := sbd_len hY; have := rows_len ys; rw [hrs] at this; omega)
         clear hS3 hY hq hrs HCL HRA HS1 HL
         go_wp2_with fail
         go_loopw [11, 37] (fun s11 s37 wr => ∃ (k : Nat) (R : Int), k ≤ q ∧ s37 = .int .i64 k ∧ s11 = .int .i64 R ∧ 1 ≤ R ∧ R ≤ 1 + (k : Int) ∧ Hid (wldB (rs.take k) t = R) ∧ Sq w wr ([rOwn w.heap.size 80 5 (.slice A3 q c3) q (rs.flatMap brwC)] ++ [])) (fun _ s37 _ => q - (intOf s37).toNat)
         case atStart => exact ⟨0, 1, Nat.zero_le _, rfl, rfl, by omega, by omega, Lib.hid rfl, hS4⟩
         case round =>
          clear hS4
          obtain ⟨k, R, hk, rfl, rfl, hr1, hr2, HP, hS⟩ := hrel
          obtain ⟨wo, hwo⟩ : ∃ z, z = wr := ⟨_, rfl⟩
          subst hwo
          have hqz := HQZ.out
          by_cases hlt : k < q
          · obtain ⟨g, hg⟩ := HAP.out (by omega)
            subst hg
            have hkp : k < rs.length := by rw [HQ.out]; exact hlt
            obtain ⟨a0, a1, a2, a3, a4⟩ := rw_cells (hS.head : World.ownsRow _ _ _ _ _ _ _) k hkp hlt
            have HST := Lib.hid (wld_step rs k hkp t)
            obtain ⟨⟨xr, xt, xi, xw, xd⟩, hx⟩ : ∃ x, rs[k] = x := ⟨_, rfl⟩
            rw [hx, HP.out] at HST
            rw [hx] at a0 a1 a2 a3 a4
            simp only at a0 a1 a2 a3 a4 HST
            have HSE := Lib.hid ((hS.add #[.int .i64 xr, .int .i64 xt, .string xi, .string xw, .int .i64 xd] 80).drop 0 rfl rfl)
            have hk0 : (0 : Int) ≤ (k : Int) := by omega
            have hk2 : (k : Int) < (q : Int) := by omega
            clear hS hkp hx
            by_cases hc : xt < t
            · rw [if_pos hc] at HST
              go_wp2_with fail
              go_roundw
              case rel => exact ⟨k + 1, R + 1, by omega, by go_num, rfl, by omega, by omega, HST, HSE.out⟩
              case measure => simp [intOf]; omega
            · rw [if_neg hc, Int.add_zero] at HST
              go_wp2_with fail
              go_roundw
              case rel => exact ⟨k + 1, R, by omega, by go_num, rfl, by omega, by omega, HST, HSE.out⟩
              case measure => simp [intOf]; omega
          · obtain rfl : k = q := by omega
            have HN : Hid (R = wldB rs t) := Lib.hid (by
             have h := HP.out
             rw [List.take_of_length_le (by rw [HQ.out]; exact Nat.le_refl _)] at h
             exact h.symm)
            have HB := Lib.hid hS.below
            clear hS HP
            go_wp2_with fail
            go_ret2
            exact ⟨rs, R, HRW.out, fun _ => HN.out, fun h => absurd rfl h, rfl, HB.out⟩
     · rw [if_pos rfl]
       clear HR HL HE0
       go_enter Tryz.func49, Tryz.ntmps49
       go_wp2_with fail
       refine HA.out.mono ?_
       rintro e w1 ⟨rfl, h1⟩
       go_wp2_with fail
       refine (HK.out w1).mono ?_
       rintro e w2 ⟨rfl, rfl⟩
       go_wp2_with fail
       refine (HO.out w1).mono ?_
       rintro e w2 ⟨rfl, rfl⟩
       go_wp2_with fail
       go_ret2
       exact ⟨[], 0, rwIs_no (by decide), fun h => absurd h (by decide), fun _ => rfl, rfl, h1⟩
 · rw [if_neg h0]
   have hne : (E != 0) = true := by rw [bne_iff_ne]; exact h0
   clear HR HL HE HM HO HK
   go_enter Tryz.func49, Tryz.ntmps49
   go_wp2_with fail
   refine HA.out.mono ?_
   rintro e w1 ⟨rfl, h1⟩
   go_wp2_with fail
   go_ret2
   exact ⟨[], 0, rwIs_no h0, fun h => absurd h h0, fun _ => rfl, rfl, h1⟩
end Go.Proofs.YtapgnaimbgjcnaaGreatDoor
/-
  slices.SortStableFunc of few names at board.Reigned$1: the most first, then by name.
-/
namespace Go.Proofs.YtapgnaimbgjcnaaGreatDoor
open Go Go.RowKit Go.Lib Go.Sort
theorem Ord3.swap {α : Type} {f : α → α → Int} (h : Ord3 f) : Ord3 (fun x y => f y x) := ⟨fun x y => h.neg y x, fun x y z h1 h2 => h.trans z y x h2 h1⟩
instance instNam : Inhabited {s : ByteArray // s.size ≤ maxLen} := ⟨⟨⟨#[]⟩, by unfold maxLen; decide⟩⟩
end Go.Proofs.YtapgnaimbgjcnaaGreatDoor

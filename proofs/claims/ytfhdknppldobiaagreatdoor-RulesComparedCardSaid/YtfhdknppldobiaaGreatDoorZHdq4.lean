/-
  What HoldsFor and WhyOf answer of right arguments: what Holds and Why do; ruleFault by a contract.
-/
import Derived.Test.YtfhdknppldobiaaGreatDoorZSjoin
import Derived.Test.YtfhdknppldobiaaGreatDoorZAtqP
import Derived.Test.YtfhdknppldobiaaGreatDoorZAts
import Derived.Test.YtfhdknppldobiaaGreatDoorZSlotPure
import Derived.Test.YtfhdknppldobiaaGreatDoorZKey2
import Derived.Test.YtfhdknppldobiaaGreatDoorZSq
import Derived.Test.YtfhdknppldobiaaGreatDoorZRng
import Derived.Shelf.Small.Strs
import Derived.Shelf.LaysM
import Derived.Test.YtfhdknppldobiaaGreatDoorProg
import Derived.Deep.RegionHeld3
import Derived.Lib.ItoaLen
import Derived.Test.YtfhdknppldobiaaGreatDoorZRatMake4
import Derived.Test.YtfhdknppldobiaaGreatDoorZTxt2
import Derived.Test.YtfhdknppldobiaaGreatDoorZFlat
import Derived.Test.YtfhdknppldobiaaGreatDoorZBs
import Derived.Deep.DeepCutAuto
import Derived.Deep.RegionLaw
import Derived.Deep.QuietTactic
import Derived.BigQuiet
import Derived.Test.YtfhdknppldobiaaGreatDoorZAppAny
import Derived.RegionTactic
import Derived.ChangeAlike
import Derived.BigRegion
import Derived.Test.YtfhdknppldobiaaGreatDoorZPsd
import Derived.Test.YtfhdknppldobiaaGreatDoorZNumF
import Derived.Test.YtfhdknppldobiaaGreatDoorZChkOf
import Derived.Laws.Concat
import Derived.Test.YtfhdknppldobiaaGreatDoorZSep
import Derived.Test.YtfhdknppldobiaaGreatDoorZTidPure
import Derived.Test.YtfhdknppldobiaaGreatDoorZRule6
namespace Go.Proofs.YtfhdknppldobiaaGreatDoor
open Go Go.RowKit TxtP
attribute [local go_sem ↓] Go.wp_at_zero Go.wp_at_succ

theorem ruleFault_calls (t : ByteArray) (w : World) (hz : t.size ≤ 90000) (ht : Tab w) : Calls Tryz.prog 46 #[.string t] w (BRet (.int .i64 (parseE numF t).2) w) := by
  have HQ := Lib.hid (checkOf_calls numF numF_qc numF_ok t w hz ht)
  rw [(check_parse numF numF_ok t).1] at HQ
  obtain ⟨q1, hq1⟩ : ∃ q, (parseE numF t).1 = q := ⟨_, rfl⟩
  obtain ⟨q2, hq2⟩ : ∃ q, (parseE numF t).2 = q := ⟨_, rfl⟩
  rw [hq1, hq2] at HQ
  rw [hq2]
  clear hq1 hq2
  go_enter Tryz.func46, Tryz.ntmps46
  go_wp2_with fail
  refine HQ.out.mono ?_
  rintro e w2 ⟨rfl, hb2⟩
  go_wp2_with fail
  go_ret
  exact ⟨rfl, hb2⟩
end Go.Proofs.YtfhdknppldobiaaGreatDoor
/-
  Strings that are added up, as a law of its own for a walk. No Go text is named here.
-/
namespace Go.Proofs.YtfhdknppldobiaaGreatDoor
open Go Go.RowKit TxtP

/-- strings that are added up, as a law of its own -/
def sumS (a b : ByteArray) : ByteArray := a ++ b
def AddOk (a b : ByteArray) : Prop := a.size + b.size ≤ 1000000
theorem run_sumS {P : Program} {w : World} (a b : ByteArray) (h : AddOk a b) : (Op.stringOp .add a b).run P w = .ok (.string (sumS a b)) w := by
  refine run_string_add_sum _ _ _ ?_
  unfold AddOk at h
  omega
theorem sumS_size (a b : ByteArray) : (sumS a b).size = a.size + b.size := by
  unfold sumS
  rw [ByteArray.size_append]
theorem addOk_of {a b : ByteArray} (h1 : a.size ≤ 200000) (h2 : b.size ≤ 200000) : AddOk a b := by unfold AddOk; omega
end Go.Proofs.YtfhdknppldobiaaGreatDoor
/-
  The stream's Changed by its contract: some string, a little longer at most.
-/
namespace Go.Proofs.YtfhdknppldobiaaGreatDoor
open Go Go.RowKit TxtP
attribute [local go_sem ↓ high] run_sumS

def IsStrN (m : Nat) (v : Value) : Prop := ∃ z : ByteArray, v = .string z ∧ z.size ≤ m
set_option maxRecDepth 100000 in
set_option maxHeartbeats 4000000 in
theorem changed_calls (b K : Nat) (t wi : ByteArray) (w : World) (hs : Strm w b K) (hK : K ≤ 900000) (ht : t.size ≤ 100000) (hw0 : 0 < wi.size) (hw : wi.size ≤ 1000) :
    Calls Tryz.prog 94 #[.pointer (some ⟨b, 0, none⟩), .string t, .string wi] w (SpS (IsStrN (t.size + wi.size + 4)) w b (K + 10) []) := by
  have hS0 := Sp.start hs
  have hwe := isEmpty_f (s := wi) hw0
  have hwe' : (wi.toList == []) = false := by rw [← hwe]; cases wi.toList <;> rfl
  by_cases h0 : t.size = 0
  · have he : t.toList = [] := by rw [Lib.toList_data]; exact nil_data h0
    go_enter Tryz.func94, Tryz.ntmps94
    go_wp2_with fail
    go_ret
    exact ⟨_, rfl, ⟨wi, rfl, by omega⟩, hS0.more (by omega)⟩
  · have hte := isEmpty_f (s := t) (by omega)
    have hte' : (t.toList == []) = false := by rw [← hte]; cases t.toList <;> rfl
    go_enter Tryz.func94, Tryz.ntmps94
    go_wp2_with fail
    refine (sp_next hS0 (t.size : Int) (by omega) (by omega) (by omega)).mono ?_
    rintro e w1 ⟨_, rfl, ⟨i0, rfl, hi0, hi1⟩, hS1⟩
    obtain ⟨i, rfl⟩ : ∃ i : Nat, i0 = i := ⟨i0.toNat, by omega⟩
    have hit : i < t.size := by omega
    clear hS0
    go_wp2_with fail
    refine (sp_next hS1 (wi.size : Int) (by omega) (by omega) (by omega)).mono ?_
    rintro e w2 ⟨_, rfl, ⟨j0, rfl, hj0, hj1⟩, hS2⟩
    obtain ⟨j, rfl⟩ : ∃ j : Nat, j0 = j := ⟨j0.toNat, by omega⟩
    have hjt : j < wi.size := by omega
    clear hS1
    go_wp2_with fail
    refine (sp_next hS2 3 (by omega) (by omega) (by omega)).mono ?_
    rintro e w3 ⟨_, rfl, ⟨q, rfl, hq0, hq1⟩, hS3⟩
    clear hS2
    have hes := Go.encode_size_le (wrap32 (wi[j].toNat : Int))
    have hx1 : (t.extract 0 i).size ≤ i := by rw [ByteArray.size_extract]; omega
    have hx2 : (t.extract (i + 1) t.size).size ≤ t.size - (i + 1) := by rw [ByteArray.size_extract]; omega
    have hx3 : (t.extract i t.size).size ≤ t.size - i := by rw [ByteArray.size_extract]; omega
    have hi64 : IntKind.i64.wrap ((i : Int) + 1) = (i : Int) + 1 := IntWalk.i64_in _ (by omega)
    have hit2 : i ≤ t.size := by omega
    have hit3 : i + 1 ≤ t.size := by omega
    have hE := hS3.drew
    obtain ⟨E, hEd⟩ : ∃ E, E = Utf8.encode (wrap32 (wi[j].toNat : Int)) := ⟨_, rfl⟩
    have hEs : E.size ≤ 4 := by rw [hEd]; exact hes
    have HED := Lib.hid hEd
    clear hes hS3
    by_cases hq : q = 0
    · subst hq
      have a1 : AddOk (t.extract 0 i) (Utf8.encode (wrap32 (wi[j].toNat : Int))) := by rw [← hEd]; exact addOk_of (by omega) (by omega)
      have a2 : AddOk (sumS (t.extract 0 i) (Utf8.encode (wrap32 (wi[j].toNat : Int)))) (t.extract (i + 1) t.size) := by rw [← hEd]; exact addOk_of (by rw [sumS_size]; omega) (by omega)
      have HZ : Hid ((sumS (sumS (t.extract 0 i) (Utf8.encode (wrap32 (wi[j].toNat : Int)))) (t.extract (i + 1) t.size)).size ≤ t.size + wi.size + 4) := by
        rw [← hEd]; exact Lib.hid (by rw [sumS_size, sumS_size]; omega)
      clear hEd
      go_wp2_with fail
      go_region
      go_wp2_with fail
      go_ret
      exact ⟨_, rfl, ⟨_, rfl, HZ.out⟩, hE.more (by omega)⟩
    · have hqb : (q == 0) = false := by simpa using hq
      by_cases hq1 : q = 1
      · subst hq1
        have a1 : AddOk (t.extract 0 i) (Utf8.encode (wrap32 (wi[j].toNat : Int))) := by rw [← hEd]; exact addOk_of (by omega) (by omega)
        have a2 : AddOk (sumS (t.extract 0 i) (Utf8.encode (wrap32 (wi[j].toNat : Int)))) (t.extract i t.size) := by rw [← hEd]; exact addOk_of (by rw [sumS_size]; omega) (by omega)
        have HZ : Hid ((sumS (sumS (t.extract 0 i) (Utf8.encode (wrap32 (wi[j].toNat : Int)))) (t.extract i t.size)).size ≤ t.size + wi.size + 4) := by
          rw [← hEd]; exact Lib.hid (by rw [sumS_size, sumS_size]; omega)
        clear hEd
        go_wp2_with fail
        go_region
        go_wp2_with fail
        go_ret
        exact ⟨_, rfl, ⟨_, rfl, HZ.out⟩, hE.more (by omega)⟩
      · have hqb1 : (q == 1) = false := by simpa using hq1
        have a1 : AddOk (t.extract 0 i) (t.extract (i + 1) t.size) := addOk_of (by omega) (by omega)
        have HZ : Hid ((sumS (t.extract 0 i) (t.extract (i + 1) t.size)).size ≤ t.size + wi.size + 4) := Lib.hid (by rw [sumS_size]; omega)
        clear hEd hq hq1
        go_wp2_with fail
        go_region
        go_wp2_with fail
        go_ret
        exact ⟨_, rfl, ⟨_, rfl, HZ.out⟩, hE.more (by omega)⟩
end Go.Proofs.YtfhdknppldobiaaGreatDoor
/-
  The stream's RightRule and Rule by contracts: strings within bounds. (Printed by gen_ruls.py.)
-/
namespace Go.Proofs.YtfhdknppldobiaaGreatDoor
open Go Go.RowKit TxtP

def strLitN (N : Nat) (cs : Array Value) : Bool := cs.toList.all fun v => match v with | .string z => decide (z.size ≤ N) | _ => false
theorem strLitN_ok {N : Nat} {cs : Array Value} (h : strLitN N cs = true) : ∀ x ∈ cs.toList, ∃ z, x = .string z ∧ z.size ≤ N := by
  intro x hx
  have := List.all_eq_true.1 h x hx
  split at this
  · exact ⟨_, rfl, of_decide_eq_true this⟩
  · cases this
theorem sp_someN {w W : World} {b K : Nat} {l : List Rsc} (N : Nat) (h : Sp w b K W l) (cs : Array Value) (t : TypeId) (n : Nat) (h0 : 0 < n) (hn : n ≤ maxLen) (hs : cs.size = n) (hx : strLitN N cs = true) (hK : K ≤ 10000000) :
    Calls Tryz.prog 23 #[.pointer (some ⟨b, 0, none⟩), .slice (some ⟨W.heap.size, 0, none⟩) n n] (W.alloc (.cells cs t)) (SpS (IsStrN N) w b (K + 1) l) :=
  (some_calls b K _ n n cs.toList _ h0 (blkRd 1 n ((h.add cs t).nth 0 rfl) ((h.add cs t).ne 0 rfl) hn (by omega)) (fun x hx' => by obtain ⟨z, hz, _⟩ := strLitN_ok hx x hx'; exact ⟨z, hz⟩) (h.add cs t).strm hK).mono (fun e w' ⟨v, he, h1, hs, hb⟩ => ⟨_, he, strLitN_ok hx v h1, ((h.add cs t).call hs hb).tail⟩)
def ruZ : Nat → Nat
  | 0 => 16
  | d + 1 => 3 * ruZ d + 40
def ruK : Nat → Nat
  | 0 => 3
  | d + 1 => 3 * ruK d + 4
theorem ruZ_ge : ∀ d, 16 ≤ ruZ d
  | 0 => Nat.le_refl _
  | d + 1 => by rw [ruZ]; omega
theorem ruZ_le (d : Nat) (h : d ≤ 4) : ruZ d ≤ 3000 := by
  have : ∀ e : Fin 5, ruZ e.1 ≤ 3000 := by decide
  exact this ⟨d, by omega⟩
theorem ruK_le (d : Nat) (h : d ≤ 4) : ruK d ≤ 1000 := by
  have : ∀ e : Fin 5, ruK e.1 ≤ 1000 := by decide
  exact this ⟨d, by omega⟩
set_option maxRecDepth 100000 in
set_option maxHeartbeats 2000000 in
theorem rightRule_calls : ∀ (d : Nat), d ≤ 4 → ∀ (b K : Nat) (w : World), Strm w b K → K + ruK d ≤ 900000 →
    Calls Tryz.prog 41 #[.pointer (some ⟨b, 0, none⟩), .int .i64 d] w (SpS (IsStrN (ruZ d)) w b (K + ruK d) [])
  | 0, _ => fun b K w hs hK => by
    have hS0 := Sp.start hs
    have hk0 : ((0 : Nat) : Int) ≤ 0 := by decide
    clear hs
    go_enter Tryz.func41, Tryz.ntmps41
    go_wp2_with fail
    refine (sp_someN 16 hS0 #[.string ⟨#[97, 32, 61, 32, 120]⟩, .string ⟨#[97, 61, 121]⟩, .string ⟨#[98, 32, 61, 32, 120]⟩, .string ⟨#[104, 97, 115, 32, 97]⟩, .string ⟨#[104, 97, 115, 32, 98]⟩, .string ⟨#[104, 97, 115, 32, 99]⟩, .string ⟨#[116, 105, 109, 101, 32, 60, 32, 53, 48, 48]⟩, .string ⟨#[116, 105, 109, 101, 32, 62, 32, 53, 48, 48]⟩, .string ⟨#[116, 114, 117, 101]⟩, .string ⟨#[99, 32, 61, 32, 49, 46, 50]⟩] 9 10 (by decide) (by decide) rfl rfl (by omega)).mono ?_
    rintro e w2 ⟨_, rfl, ⟨s, rfl, hz⟩, hS2⟩
    go_wp2_with fail
    go_ret
    exact ⟨_, rfl, ⟨s, rfl, hz⟩, hS2.more (by unfold ruK; omega)⟩
  | d + 1, hd => fun b K w hs hK => by
    have hS0 := Sp.start hs
    have IH := Lib.hid (fun K w (h : Strm w b K) (h2 : K + ruK d ≤ 900000) => rightRule_calls d (by omega) b K w h h2)
    have hkz := ruZ_le d (by omega)
    have hkk := ruK_le d (by omega)
    have hkg := ruZ_ge d
    have HK : Hid (ruK (d + 1) = 3 * ruK d + 4) := Lib.hid rfl
    have HZ : Hid (ruZ (d + 1) = 3 * ruZ d + 40) := Lib.hid rfl
    obtain ⟨Z, hZ⟩ : ∃ Z, ruZ d = Z := ⟨_, rfl⟩
    obtain ⟨k, hk⟩ : ∃ k, ruK d = k := ⟨_, rfl⟩
    rw [hZ] at IH hkz hkg HZ
    rw [hk] at IH hkk HK
    obtain ⟨D, hD⟩ : ∃ D : Int, ((d + 1 : Nat) : Int) = D := ⟨_, rfl⟩
    have hd0 : ¬ D ≤ 0 := by omega
    have hdd : decide (D ≤ 0) = false := decide_eq_false hd0
    have hdi : D - 1 = d := by omega
    rw [HK.out, HZ.out, hD]
    clear hD
    rw [HK.out] at hK
    clear hs hZ hk
    go_enter Tryz.func41, Tryz.ntmps41
    go_upto_if 11 with (first | (go_at_call 40; refine (sp_flip hS0 3 (by omega) (by omega) (by omega)).mono ?_; rintro e w2 ⟨_, rfl, ⟨fv, rfl⟩, hS2⟩))
    cases fv
    · go_wp2_with fail
      refine (IH.out _ _ hS2.strm (by omega)).mono ?_
      rintro e w3 ⟨_, rfl, ⟨s1, rfl, hz1⟩, hR3⟩
      have hS3 := hS2.call hR3.strm hR3.bx
      clear hS0 hS2 hR3
      go_wp2_with fail
      refine (sp_next hS3 5 (by omega) (by omega) (by omega)).mono ?_
      rintro e w4 ⟨_, rfl, ⟨q, rfl, hq0, hq1⟩, hS4⟩
      clear hS3
      have qc : q = 0 ∨ q = 1 ∨ q = 2 ∨ q = 3 ∨ q = 4 := by omega
      rcases qc with rfl | rfl | rfl | rfl | rfl
      · go_wp2_with fail
        go_ret
        exact ⟨_, rfl, ⟨_, rfl, by simp only [ByteArray.size_append]; show 1 + s1.size + 1 ≤ _; omega⟩, hS4.more (by omega)⟩
      · go_wp2_with fail
        go_ret
        exact ⟨_, rfl, ⟨_, rfl, by simp only [ByteArray.size_append]; show 4 + s1.size ≤ _; omega⟩, hS4.more (by omega)⟩
      · go_wp2_with fail
        refine (IH.out _ _ hS4.strm (by omega)).mono ?_
        rintro e w5 ⟨_, rfl, ⟨s2, rfl, hz2⟩, hR5⟩
        have hS5 := hS4.call hR5.strm hR5.bx
        clear hS4 hR5
        go_wp2_with fail
        go_ret
        exact ⟨_, rfl, ⟨_, rfl, by simp only [ByteArray.size_append]; show 5 + s1.size + 4 + s2.size + 1 ≤ _; omega⟩, hS5.more (by omega)⟩
      · go_wp2_with fail
        refine (IH.out _ _ hS4.strm (by omega)).mono ?_
        rintro e w5 ⟨_, rfl, ⟨s2, rfl, hz2⟩, hR5⟩
        have hS5 := hS4.call hR5.strm hR5.bx
        clear hS4 hR5
        go_wp2_with fail
        refine (IH.out _ _ hS5.strm (by omega)).mono ?_
        rintro e w6 ⟨_, rfl, ⟨s3, rfl, hz3⟩, hR6⟩
        have hS6 := hS5.call hR6.strm hR6.bx
        clear hS5 hR6
        go_wp2_with fail
        go_ret
        exact ⟨_, rfl, ⟨_, rfl, by simp only [ByteArray.size_append]; show 1 + s1.size + 4 + s2.size + 6 + s3.size ≤ _; omega⟩, hS6.more (by omega)⟩
      · go_wp2_with fail
        refine (sp_someN 16 hS4 #[.string ⟨#[32, 97, 110, 100, 32]⟩, .string ⟨#[32, 111, 114, 32]⟩, .string ⟨#[32, 32, 97, 110, 100, 32]⟩] 9 3 (by decide) (by decide) rfl rfl (by omega)).mono ?_
        rintro e w5 ⟨_, rfl, ⟨s2, rfl, hz2⟩, hS5⟩
        clear hS4
        go_wp2_with fail
        refine (IH.out _ _ hS5.strm (by omega)).mono ?_
        rintro e w6 ⟨_, rfl, ⟨s3, rfl, hz3⟩, hR6⟩
        have hS6 := hS5.call hR6.strm hR6.bx
        clear hS5 hR6
        go_wp2_with fail
        go_ret
        exact ⟨_, rfl, ⟨_, rfl, by simp only [ByteArray.size_append]; omega⟩, hS6.more (by omega)⟩
    · go_wp2_with fail
      refine (sp_someN 16 hS2 #[.string ⟨#[97, 32, 61, 32, 120]⟩, .string ⟨#[97, 61, 121]⟩, .string ⟨#[98, 32, 61, 32, 120]⟩, .string ⟨#[104, 97, 115, 32, 97]⟩, .string ⟨#[104, 97, 115, 32, 98]⟩, .string ⟨#[104, 97, 115, 32, 99]⟩, .string ⟨#[116, 105, 109, 101, 32, 60, 32, 53, 48, 48]⟩, .string ⟨#[116, 105, 109, 101, 32, 62, 32, 53, 48, 48]⟩, .string ⟨#[116, 114, 117, 101]⟩, .string ⟨#[99, 32, 61, 32, 49, 46, 50]⟩] 9 10 (by decide) (by decide) rfl rfl (by omega)).mono ?_
      rintro e w3 ⟨_, rfl, ⟨s, rfl, hz⟩, hS3⟩
      go_wp2_with fail
      go_ret
      exact ⟨_, rfl, ⟨s, rfl, by omega⟩, hS3.more (by omega)⟩
set_option maxRecDepth 100000 in
set_option maxHeartbeats 2000000 in
theorem ruleS6_calls (b K : Nat) (w : World) (hs : Strm w b K) (hK : K ≤ 700000) :
    Calls Tryz.prog 39 #[.pointer (some ⟨b, 0, none⟩)] w (SpS (IsStrN 6000) w b (K + 3000) []) := by
  have hS0 := Sp.start hs
  have HRR := Lib.hid (fun (d : Nat) (hd : d ≤ 4) K w (h : Strm w b K) (h2 : K ≤ 800000) => rightRule_calls d hd b K w h (by have := ruK_le d hd; omega))
  clear hs
  go_enter Tryz.func39, Tryz.ntmps39
  go_wp2_with fail
  refine (sp_range hS0 0 4 (by omega) (by omega) (by omega) (by omega)).mono ?_
  rintro e w2 ⟨_, rfl, ⟨q, rfl, hq0, hq1⟩, hS2⟩
  obtain ⟨d, rfl⟩ : ∃ d : Nat, q = d := ⟨q.toNat, by omega⟩
  have hd4 : d ≤ 4 := by omega
  have hkz := ruZ_le d hd4
  have hkk := ruK_le d hd4
  clear hS0
  go_wp2_with fail
  refine (HRR.out d hd4 _ _ hS2.strm (by omega)).mono ?_
  rintro e w3 ⟨_, rfl, ⟨s1, rfl, hz1⟩, hR3⟩
  have hS3 := (hS2.call hR3.strm hR3.bx).more (K' := K + 1001) (by omega)
  have hs1 : s1.size ≤ 3000 := by omega
  clear hS2 hR3 hz1 hkz hkk hq0 hq1
  go_wp2_with fail
  refine (sp_flip hS3 20 (by omega) (by omega) (by omega)).mono ?_
  rintro e w4 ⟨_, rfl, ⟨fv, rfl⟩, hS4⟩
  clear hS3
  go_upto_if 9 with (fail)
  go_cut [3] (fun s3 V => ∃ x : ByteArray, s3 = .string x ∧ x.size ≤ 5000 ∧ Sp w b (K + 1200) V [])
  case first =>
    cases fv
    · go_wp2_with fail
      go_meet
      exact ⟨s1, rfl, by omega, hS4.more (by omega)⟩
    · go_wp2_with fail
      refine (sp_someN 16 hS4 #[.string ⟨#[97, 32, 61, 32, 120]⟩, .string ⟨#[104, 97, 115, 32, 98]⟩, .string ⟨#[97, 32, 61, 32, 120, 32, 111, 114, 32, 104, 97, 115, 32, 98]⟩] 9 3 (by decide) (by decide) rfl rfl (by omega)).mono ?_
      rintro e w5 ⟨_, rfl, ⟨s2, rfl, hz2⟩, hS5⟩
      clear hS4
      go_wp2_with fail
      refine (sp_range hS5 18 24 (by omega) (by omega) (by omega) (by omega)).mono ?_
      rintro e w6 ⟨_, rfl, ⟨m, rfl, hm0, hm1⟩, hS6⟩
      clear hS5
      go_wp2_with fail
      go_loopw [3, 15] (fun s3 i wr => ∃ (j : Nat) (x : ByteArray), (j : Int) ≤ m ∧ i = .int .i64 j ∧ s3 = .string x ∧ x.size ≤ 16 + 4 * j ∧ Sp w b (K + 1010 + j) wr []) (fun _ i _ => m.toNat - (intOf i).toNat)
      case atStart => exact ⟨0, s2, by omega, rfl, rfl, by omega, hS6.more (by omega)⟩
      case round =>
        clear hS6
        obtain ⟨j, x, hj, rfl, rfl, hx, hS⟩ := hrel
        by_cases hlt : (j : Int) < m
        · go_wp2_with fail
          refine (sp_flip hS 2 (by omega) (by omega) (by omega)).mono ?_
          rintro e w7 ⟨_, rfl, ⟨g, rfl⟩, hS7⟩
          cases g
          · go_wp2_with fail
            go_roundw
            case rel => exact ⟨j + 1, _, by omega, by go_num, rfl, by simp only [ByteArray.size_append]; show 4 + x.size ≤ _; omega, hS7.more (by omega)⟩
            case measure => simp [intOf]; omega
          · go_wp2_with fail
            go_roundw
            case rel => exact ⟨j + 1, _, by omega, by go_num, rfl, by simp only [ByteArray.size_append]; show 1 + x.size + 1 ≤ _; omega, hS7.more (by omega)⟩
            case measure => simp [intOf]; omega
        · go_wp2_with fail
          go_meet
          exact ⟨x, rfl, by omega, hS.more (by omega)⟩
  case rest =>
    obtain ⟨x, rfl, hx, hS5⟩ := hcut
    clear hS4 hs1
    go_wp2_with fail
    refine (sp_pickL hS5 #[.int .i64 0, .int .i64 0, .int .i64 0, .int .i64 1, .int .i64 2] 3 5 0 2 (by decide) (by decide) rfl rfl (by omega)).mono ?_
    rintro e w6 ⟨_, rfl, ⟨m, rfl, hm0, hm1⟩, hS6⟩
    clear hS5
    go_wp2_with fail
    go_loopw [3, 28] (fun s3 i wr => ∃ (j : Nat) (x : ByteArray), (j : Int) ≤ m ∧ i = .int .i64 j ∧ s3 = .string x ∧ x.size ≤ 5000 + 40 * j ∧ Sp w b (K + 1210 + 10 * j) wr []) (fun _ i _ => m.toNat - (intOf i).toNat)
    case atStart => exact ⟨0, x, by omega, rfl, rfl, by omega, hS6.more (by omega)⟩
    case round =>
      clear hS6
      obtain ⟨j, y, hj, rfl, rfl, hy, hS⟩ := hrel
      by_cases hlt : (j : Int) < m
      · have HC := Lib.hid (changed_calls b (K + 1210 + 10 * j) y ⟨#[32, 40, 41, 61, 60, 62, 97, 110, 111, 116, 48, 53]⟩ wr hS.strm (by omega) (by omega) (by decide) (by decide))
        have hwz : (⟨#[32, 40, 41, 61, 60, 62, 97, 110, 111, 116, 48, 53]⟩ : ByteArray).size = 12 := rfl
        go_wp2_with fail
        refine HC.out.mono ?_
        rintro e w7 ⟨_, rfl, ⟨y2, rfl, hy2⟩, hR7⟩
        have hS7 := hS.call hR7.strm hR7.bx
        rw [hwz] at hy2
        clear hS hR7 HC
        go_wp2_with fail
        go_roundw
        case rel => exact ⟨j + 1, y2, by omega, by go_num, rfl, by omega, hS7.more (by omega)⟩
        case measure => simp [intOf]; omega
      · go_wp2_with fail
        go_ret
        exact ⟨_, rfl, ⟨y, rfl, by omega⟩, hS.more (by omega)⟩
end Go.Proofs.YtfhdknppldobiaaGreatDoor
/-
  Rules that are put together of parts: what the parser makes of their tokens. No Go text is named here.
-/
namespace Go.Proofs.YtfhdknppldobiaaGreatDoor
open Go Go.RowKit

theorem map_cons {l : List Tk} {t : ByteArray} {u : List ByteArray} (h : l.map (·.1) = t :: u) : ∃ p l2, l = (t, p) :: l2 ∧ l2.map (·.1) = u := by
  cases l with
  | nil => cases h
  | cons x l2 =>
    rw [List.map_cons] at h
    injection h with h1 h2
    exact ⟨x.2, l2, by rw [← h1], h2⟩
end Go.Proofs.YtfhdknppldobiaaGreatDoor
/-
  The stream's RightRule by a contract that keeps a property of strings: rules that are put together of parts.
-/
namespace Go.Proofs.YtfhdknppldobiaaGreatDoor
open Go Go.RowKit TxtP

def IsStrP (P : ByteArray → Prop) (v : Value) : Prop := ∃ z : ByteArray, v = .string z ∧ P z
theorem sp_someP {w W : World} {b K : Nat} {l : List Rsc} (P : ByteArray → Prop) (h : Sp w b K W l) (cs : Array Value) (t : TypeId) (n : Nat) (h0 : 0 < n) (hn : n ≤ maxLen) (hs : cs.size = n) (hx : ∀ v ∈ cs.toList, IsStrP P v) (hK : K ≤ 10000000) :
    Calls Tryz.prog 23 #[.pointer (some ⟨b, 0, none⟩), .slice (some ⟨W.heap.size, 0, none⟩) n n] (W.alloc (.cells cs t)) (SpS (IsStrP P) w b (K + 1) l) :=
  (some_calls b K _ n n cs.toList _ h0 (blkRd 1 n ((h.add cs t).nth 0 rfl) ((h.add cs t).ne 0 rfl) hn (by omega)) (fun x hx' => by obtain ⟨z, hz, _⟩ := hx x hx'; exact ⟨z, hz⟩) (h.add cs t).strm hK).mono (fun e w' ⟨v, he, h1, hs, hb⟩ => ⟨_, he, hx v h1, ((h.add cs t).call hs hb).tail⟩)
end Go.Proofs.YtfhdknppldobiaaGreatDoor
/-
  splitlaw2.ruled by a contract: it answers true.
-/
namespace Go.Proofs.YtfhdknppldobiaaGreatDoor
open Go Go.RowKit

theorem ruled_calls (w : World) : Calls Tryz.prog 38 #[] w (BRet (.bool true) w) := by
  have HT : Hid (∀ W : World, Calls Tryz.prog 51 #[.string ⟨#[40, 97, 61, 120, 41, 111, 114, 32, 104, 97, 115, 32, 98]⟩] W (BRet (.tuple #[.string ⟨#[97, 32, 61, 32, 120, 32, 111, 114, 32, 104, 97, 115, 32, 98]⟩, .int .i64 0, .int .i64 0]) W)) := fun W => tidyLit_calls W
  go_enter Tryz.func38, Tryz.ntmps38
  go_wp2_with fail
  refine (HT.out _).mono ?_
  rintro e w1 ⟨rfl, hb1⟩
  go_wp2_with fail
  go_ret
  exact ⟨rfl, hb1⟩
end Go.Proofs.YtfhdknppldobiaaGreatDoor

/-
  Strings that are added up, as a law of its own for a walk. No Go text is named here.
-/
import Derived.Test.YtlkapcjofgpiiaaGreatDoorZTxt1
import Derived.Test.YtlkapcjofgpiiaaGreatDoorZSq
import Derived.Laws.Concat
import Derived.Test.YtlkapcjofgpiiaaGreatDoorZSep
import Derived.Deep.DeepCutAuto
namespace Go.Proofs.YtlkapcjofgpiiaaGreatDoor
open Go Go.RowKit TxtP

/-- strings that are added up, as a law of its own -/
def sumS (a b : ByteArray) : ByteArray := a ++ b
def AddOk (a b : ByteArray) : Prop := a.size + b.size ≤ 1000000
theorem run_sumS {P : Program} {w : World} (a b : ByteArray) (h : AddOk a b) : (Op.stringOp .add a b).run P w = .ok (.string (sumS a b)) w := by
  refine run_string_add_sum _ _ _ ?_
  unfold AddOk at h
  omega
end Go.Proofs.YtlkapcjofgpiiaaGreatDoor
/-
  The stream's Changed by its contract: some string, a little longer at most.
-/
namespace Go.Proofs.YtlkapcjofgpiiaaGreatDoor
open Go Go.RowKit TxtP
attribute [local go_sem ↓ high] run_sumS

def IsStrN (m : Nat) (v : Value) : Prop := ∃ z : ByteArray, v = .string z ∧ z.size ≤ m
end Go.Proofs.YtlkapcjofgpiiaaGreatDoor
/-
  The stream's RightRule and Rule by contracts: strings within bounds. (Printed by gen_ruls.py.)
-/
namespace Go.Proofs.YtlkapcjofgpiiaaGreatDoor
open Go Go.RowKit TxtP

def strLitN (N : Nat) (cs : Array Value) : Bool := cs.toList.all fun v => match v with | .string z => decide (z.size ≤ N) | _ => false
theorem strLitN_ok {N : Nat} {cs : Array Value} (h : strLitN N cs = true) : ∀ x ∈ cs.toList, ∃ z, x = .string z ∧ z.size ≤ N := by
  intro x hx
  have := List.all_eq_true.1 h x hx
  split at this
  · exact ⟨_, rfl, of_decide_eq_true this⟩
  · cases this
theorem sp_someN {w W : World} {b K : Nat} {l : List Rsc} (N : Nat) (h : Sp w b K W l) (cs : Array Value) (t : TypeId) (n : Nat) (h0 : 0 < n) (hn : n ≤ maxLen) (hs : cs.size = n) (hx : strLitN N cs = true) (hK : K ≤ 10000000) :
    Calls Tryz.prog 17 #[.pointer (some ⟨b, 0, none⟩), .slice (some ⟨W.heap.size, 0, none⟩) n n] (W.alloc (.cells cs t)) (SpS (IsStrN N) w b (K + 1) l) :=
  (some_calls b K _ n n cs.toList _ h0 (blkRd 1 n ((h.add cs t).nth 0 rfl) ((h.add cs t).ne 0 rfl) hn (by omega)) (fun x hx' => by obtain ⟨z, hz, _⟩ := strLitN_ok hx x hx'; exact ⟨z, hz⟩) (h.add cs t).strm hK).mono (fun e w' ⟨v, he, h1, hs, hb⟩ => ⟨_, he, strLitN_ok hx v h1, ((h.add cs t).call hs hb).tail⟩)
def ruZ : Nat → Nat
  | 0 => 16
  | d + 1 => 3 * ruZ d + 40
def ruK : Nat → Nat
  | 0 => 3
  | d + 1 => 3 * ruK d + 4
theorem ruZ_ge : ∀ d, 16 ≤ ruZ d
  | 0 => Nat.le_refl _
  | d + 1 => by rw [ruZ]; omega
theorem ruZ_le (d : Nat) (h : d ≤ 4) : ruZ d ≤ 3000 := by
  have : ∀ e : Fin 5, ruZ e.1 ≤ 3000 := by decide
  exact this ⟨d, by omega⟩
theorem ruK_le (d : Nat) (h : d ≤ 4) : ruK d ≤ 1000 := by
  have : ∀ e : Fin 5, ruK e.1 ≤ 1000 := by decide
  exact this ⟨d, by omega⟩
set_option maxRecDepth 100000 in
set_option maxHeartbeats 2000000 in
theorem rightRule_calls : ∀ (d : Nat), d ≤ 4 → ∀ (b K : Nat) (w : World), Strm w b K → K + ruK d ≤ 900000 →
    Calls Tryz.prog 34 #[.pointer (some ⟨b, 0, none⟩), .int .i64 d] w (SpS (IsStrN (ruZ d)) w b (K + ruK d) [])
  | 0, _ => fun b K w hs hK => by
    have hS0 := Sp.start hs
    have hk0 : ((0 : Nat) : Int) ≤ 0 := by decide
    clear hs
    go_enter Tryz.func34, Tryz.ntmps34
    go_wp2_with fail
    refine (sp_someN 16 hS0 #[.string ⟨#[97, 32, 61, 32, 120]⟩, .string ⟨#[97, 61, 121]⟩, .string ⟨#[98, 32, 61, 32, 120]⟩, .string ⟨#[104, 97, 115, 32, 97]⟩, .string ⟨#[104, 97, 115, 32, 98]⟩, .string ⟨#[104, 97, 115, 32, 99]⟩, .string ⟨#[116, 105, 109, 101, 32, 60, 32, 53, 48, 48]⟩, .string ⟨#[116, 105, 109, 101, 32, 62, 32, 53, 48, 48]⟩, .string ⟨#[116, 114, 117, 101]⟩, .string ⟨#[99, 32, 61, 32, 49, 46, 50]⟩] 9 10 (by decide) (by decide) rfl rfl (by omega)).mono ?_
    rintro e w2 ⟨_, rfl, ⟨s, rfl, hz⟩, hS2⟩
    go_wp2_with fail
    go_ret
    exact ⟨_, rfl, ⟨s, rfl, hz⟩, hS2.more (by unfold ruK; omega)⟩
  | d + 1, hd => fun b K w hs hK => by
    have hS0 := Sp.start hs
    have IH := Lib.hid (fun K w (h : Strm w b K) (h2 : K + ruK d ≤ 900000) => rightRule_calls d (by omega) b K w h h2)
    have hkz := ruZ_le d (by omega)
    have hkk := ruK_le d (by omega)
    have hkg := ruZ_ge d
    have HK : Hid (ruK (d + 1) = 3 * ruK d + 4) := Lib.hid rfl
    have HZ : Hid (ruZ (d + 1) = 3 * ruZ d + 40) := Lib.hid rfl
    obtain ⟨Z, hZ⟩ : ∃ Z, ruZ d = Z := ⟨_, rfl⟩
    obtain ⟨k, hk⟩ : ∃ k, ruK d = k := ⟨_, rfl⟩
    rw [hZ] at IH hkz hkg HZ
    rw [hk] at IH hkk HK
    obtain ⟨D, hD⟩ : ∃ D : Int, ((d + 1 : Nat) : Int) = D := ⟨_, rfl⟩
    have hd0 : ¬ D ≤ 0 := by omega
    have hdd : decide (D ≤ 0) = false := decide_eq_false hd0
    have hdi : D - 1 = d := by omega
    rw [HK.out, HZ.out, hD]
    clear hD
    rw [HK.out] at hK
    clear hs hZ hk
    go_enter Tryz.func34, Tryz.ntmps34
    go_upto_if 11 with (first | (go_at_call 35; refine (sp_flip hS0 3 (by omega) (by omega) (by omega)).mono ?_; rintro e w2 ⟨_, rfl, ⟨fv, rfl⟩, hS2⟩))
    cases fv
    · go_wp2_with fail
      refine (IH.out _ _ hS2.strm (by omega)).mono ?_
      rintro e w3 ⟨_, rfl, ⟨s1, rfl, hz1⟩, hR3⟩
      have hS3 := hS2.call hR3.strm hR3.bx
      clear hS0 hS2 hR3
      go_wp2_with fail
      refine (sp_next hS3 5 (by omega) (by omega) (by omega)).mono ?_
      rintro e w4 ⟨_, rfl, ⟨q, rfl, hq0, hq1⟩, hS4⟩
      clear hS3
      have qc : q = 0 ∨ q = 1 ∨ q = 2 ∨ q = 3 ∨ q = 4 := by omega
      rcases qc with rfl | rfl | rfl | rfl | rfl
      · go_wp2_with fail
        go_ret
        exact ⟨_, rfl, ⟨_, rfl, by simp only [ByteArray.size_append]; show 1 + s1.size + 1 ≤ _; omega⟩, hS4.more (by omega)⟩
      · go_wp2_with fail
        go_ret
        exact ⟨_, rfl, ⟨_, rfl, by simp only [ByteArray.size_append]; show 4 + s1.size ≤ _; omega⟩, hS4.more (by omega)⟩
      · go_wp2_with fail
        refine (IH.out _ _ hS4.strm (by omega)).mono ?_
        rintro e w5 ⟨_, rfl, ⟨s2, rfl, hz2⟩, hR5⟩
        have hS5 := hS4.call hR5.strm hR5.bx
        clear hS4 hR5
        go_wp2_with fail
        go_ret
        exact ⟨_, rfl, ⟨_, rfl, by simp only [ByteArray.size_append]; show 5 + s1.size + 4 + s2.size + 1 ≤ _; omega⟩, hS5.more (by omega)⟩
      · go_wp2_with fail
        refine (IH.out _ _ hS4.strm (by omega)).mono ?_
        rintro e w5 ⟨_, rfl, ⟨s2, rfl, hz2⟩, hR5⟩
        have hS5 := hS4.call hR5.strm hR5.bx
        clear hS4 hR5
        go_wp2_with fail
        refine (IH.out _ _ hS5.strm (by omega)).mono ?_
        rintro e w6 ⟨_, rfl, ⟨s3, rfl, hz3⟩, hR6⟩
        have hS6 := hS5.call hR6.strm hR6.bx
        clear hS5 hR6
        go_wp2_with fail
        go_ret
        exact ⟨_, rfl, ⟨_, rfl, by simp only [ByteArray.size_append]; show 1 + s1.size + 4 + s2.size + 6 + s3.size ≤ _; omega⟩, hS6.more (by omega)⟩
      · go_wp2_with fail
        refine (sp_someN 16 hS4 #[.string ⟨#[32, 97, 110, 100, 32]⟩, .string ⟨#[32, 111, 114, 32]⟩, .string ⟨#[32, 32, 97, 110, 100, 32]⟩] 9 3 (by decide) (by decide) rfl rfl (by omega)).mono ?_
        rintro e w5 ⟨_, rfl, ⟨s2, rfl, hz2⟩, hS5⟩
        clear hS4
        go_wp2_with fail
        refine (IH.out _ _ hS5.strm (by omega)).mono ?_
        rintro e w6 ⟨_, rfl, ⟨s3, rfl, hz3⟩, hR6⟩
        have hS6 := hS5.call hR6.strm hR6.bx
        clear hS5 hR6
        go_wp2_with fail
        go_ret
        exact ⟨_, rfl, ⟨_, rfl, by simp only [ByteArray.size_append]; omega⟩, hS6.more (by omega)⟩
    · go_wp2_with fail
      refine (sp_someN 16 hS2 #[.string ⟨#[97, 32, 61, 32, 120]⟩, .string ⟨#[97, 61, 121]⟩, .string ⟨#[98, 32, 61, 32, 120]⟩, .string ⟨#[104, 97, 115, 32, 97]⟩, .string ⟨#[104, 97, 115, 32, 98]⟩, .string ⟨#[104, 97, 115, 32, 99]⟩, .string ⟨#[116, 105, 109, 101, 32, 60, 32, 53, 48, 48]⟩, .string ⟨#[116, 105, 109, 101, 32, 62, 32, 53, 48, 48]⟩, .string ⟨#[116, 114, 117, 101]⟩, .string ⟨#[99, 32, 61, 32, 49, 46, 50]⟩] 9 10 (by decide) (by decide) rfl rfl (by omega)).mono ?_
      rintro e w3 ⟨_, rfl, ⟨s, rfl, hz⟩, hS3⟩
      go_wp2_with fail
      go_ret
      exact ⟨_, rfl, ⟨s, rfl, by omega⟩, hS3.more (by omega)⟩
end Go.Proofs.YtlkapcjofgpiiaaGreatDoor

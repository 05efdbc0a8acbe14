/-
  The stream's Changed by its contract: some string, a little longer at most.
-/
import Derived.Test.YtfmljboogkhobaaGreatDoorZSep
import Derived.Test.YtfmljboogkhobaaGreatDoorZSumS
import Derived.Laws.Concat
namespace Go.Proofs.YtfmljboogkhobaaGreatDoor
open Go Go.RowKit TxtP
attribute [local go_sem ↓ high] run_sumS

def IsStrN (m : Nat) (v : Value) : Prop := ∃ z : ByteArray, v = .string z ∧ z.size ≤ m
set_option maxRecDepth 100000 in
set_option maxHeartbeats 4000000 in
theorem changed_calls (b K : Nat) (t wi : ByteArray) (w : World) (hs : Strm w b K) (hK : K ≤ 900000) (ht : t.size ≤ 100000) (hw0 : 0 < wi.size) (hw : wi.size ≤ 1000) :
    Calls Tryz.prog 59 #[.pointer (some ⟨b, 0, none⟩), .string t, .string wi] w (SpS (IsStrN (t.size + wi.size + 4)) w b (K + 10) []) := by
  have hS0 := Sp.start hs
  have hwe := isEmpty_f (s := wi) hw0
  have hwe' : (wi.toList == []) = false := by rw [← hwe]; cases wi.toList <;> rfl
  by_cases h0 : t.size = 0
  · have he : t.toList = [] := by rw [Lib.toList_data]; exact nil_data h0
    go_enter Tryz.func59, Tryz.ntmps59
    go_wp2_with fail
    go_ret
    exact ⟨_, rfl, ⟨wi, rfl, by omega⟩, hS0.more (by omega)⟩
  · have hte := isEmpty_f (s := t) (by omega)
    have hte' : (t.toList == []) = false := by rw [← hte]; cases t.toList <;> rfl
    go_enter Tryz.func59, Tryz.ntmps59
    go_wp2_with fail
    refine (sp_next hS0 (t.size : Int) (by omega) (by omega) (by omega)).mono ?_
    rintro e w1 ⟨_, rfl, ⟨i0, rfl, hi0, hi1⟩, hS1⟩
    obtain ⟨i, rfl⟩ : ∃ i : Nat, i0 = i := ⟨i0.toNat, by omega⟩
    have hit : i < t.size := by omega
    clear hS0
    go_wp2_with fail
    refine (sp_next hS1 (wi.size : Int) (by omega) (by omega) (by omega)).mono ?_
    rintro e w2 ⟨_, rfl, ⟨j0, rfl, hj0, hj1⟩, hS2⟩
    obtain ⟨j, rfl⟩ : ∃ j : Nat, j0 = j := ⟨j0.toNat, by omega⟩
    have hjt : j < wi.size := by omega
    clear hS1
    go_wp2_with fail
    refine (sp_next hS2 3 (by omega) (by omega) (by omega)).mono ?_
    rintro e w3 ⟨_, rfl, ⟨q, rfl, hq0, hq1⟩, hS3⟩
    clear hS2
    have hes := Go.encode_size_le (wrap32 (wi[j].toNat : Int))
    have hx1 : (t.extract 0 i).size ≤ i := by rw [ByteArray.size_extract]; omega
    have hx2 : (t.extract (i + 1) t.size).size ≤ t.size - (i + 1) := by rw [ByteArray.size_extract]; omega
    have hx3 : (t.extract i t.size).size ≤ t.size - i := by rw [ByteArray.size_extract]; omega
    have hi64 : IntKind.i64.wrap ((i : Int) + 1) = (i : Int) + 1 := IntWalk.i64_in _ (by omega)
    have hit2 : i ≤ t.size := by omega
    have hit3 : i + 1 ≤ t.size := by omega
    have hE := hS3.drew
    obtain ⟨E, hEd⟩ : ∃ E, E = Utf8.encode (wrap32 (wi[j].toNat : Int)) := ⟨_, rfl⟩
    have hEs : E.size ≤ 4 := by rw [hEd]; exact hes
    have HED := Lib.hid hEd
    clear hes hS3
    by_cases hq : q = 0
    · subst hq
      have a1 : AddOk (t.extract 0 i) (Utf8.encode (wrap32 (wi[j].toNat : Int))) := by rw [← hEd]; exact addOk_of (by omega) (by omega)
      have a2 : AddOk (sumS (t.extract 0 i) (Utf8.encode (wrap32 (wi[j].toNat : Int)))) (t.extract (i + 1) t.size) := by rw [← hEd]; exact addOk_of (by rw [sumS_size]; omega) (by omega)
      have HZ : Hid ((sumS (sumS (t.extract 0 i) (Utf8.encode (wrap32 (wi[j].toNat : Int)))) (t.extract (i + 1) t.size)).size ≤ t.size + wi.size + 4) := by
        rw [← hEd]; exact Lib.hid (by rw [sumS_size, sumS_size]; omega)
      clear hEd
      go_wp2_with fail
      go_region
      go_wp2_with fail
      go_ret
      exact ⟨_, rfl, ⟨_, rfl, HZ.out⟩, hE.more (by omega)⟩
    · have hqb : (q == 0) = false := by simpa using hq
      by_cases hq1 : q = 1
      · subst hq1
        have a1 : AddOk (t.extract 0 i) (Utf8.encode (wrap32 (wi[j].toNat : Int))) := by rw [← hEd]; exact addOk_of (by omega) (by omega)
        have a2 : AddOk (sumS (t.extract 0 i) (Utf8.encode (wrap32 (wi[j].toNat : Int)))) (t.extract i t.size) := by rw [← hEd]; exact addOk_of (by rw [sumS_size]; omega) (by omega)
        have HZ : Hid ((sumS (sumS (t.extract 0 i) (Utf8.encode (wrap32 (wi[j].toNat : Int)))) (t.extract i t.size)).size ≤ t.size + wi.size + 4) := by
          rw [← hEd]; exact Lib.hid (by rw [sumS_size, sumS_size]; omega)
        clear hEd
        go_wp2_with fail
        go_region
        go_wp2_with fail
        go_ret
        exact ⟨_, rfl, ⟨_, rfl, HZ.out⟩, hE.more (by omega)⟩
      · have hqb1 : (q == 1) = false := by simpa using hq1
        have a1 : AddOk (t.extract 0 i) (t.extract (i + 1) t.size) := addOk_of (by omega) (by omega)
        have HZ : Hid ((sumS (t.extract 0 i) (t.extract (i + 1) t.size)).size ≤ t.size + wi.size + 4) := Lib.hid (by rw [sumS_size]; omega)
        clear hEd hq hq1
        go_wp2_with fail
        go_region
        go_wp2_with fail
        go_ret
        exact ⟨_, rfl, ⟨_, rfl, HZ.out⟩, hE.more (by omega)⟩
end Go.Proofs.YtfmljboogkhobaaGreatDoor

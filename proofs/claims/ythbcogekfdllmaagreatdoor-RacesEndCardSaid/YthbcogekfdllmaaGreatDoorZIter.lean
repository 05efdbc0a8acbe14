/-
  DERIVED: THE SHELF's CONTRACTS AT THIS DUMP, IN PLAIN WORDS (tools/lay-plain.mjs out of 'TryzShelf.lean', which tools/lay-shelf.mjs wrote): THE SAME DECLARATIONS UNDER THE SAME NAMES: 'import', 'namespace', 'open', 'def', 'theorem' AND NOTHING ELSE: no command of the shelf's: FOR A HAND-IN. Each laying: the table of numbers ('.._ren') and one theorem, a field a fact of the dump's own or the kernel's comparison; each contract: ONE APPLICATION.
-/
import Derived.Shelf.SlGeneric
import Derived.Shelf.SlIter.Nil
import Derived.Shelf.SortM.Plain
import Derived.Shelf.SortM.SortNone
import Derived.Test.YthbcogekfdllmaaGreatDoorProg
import Derived.Test.YthbcogekfdllmaaGreatDoorZRf1
import Derived.Test.YthbcogekfdllmaaGreatDoorZRat1
import Derived.Test.YthbcogekfdllmaaGreatDoorZSlotPure
namespace Go.Proofs
open Go.Shelf
def Tryz.keys52_ren : Go.Shelf.Ren := ⟨fun | 7 => 52 | 10 => 116 | n => n, fun | 23 => 116 | 26 => 9 | 3 => 124 | 28 => 121 | 0 => 0 | 27 => 120 | 33 => 168 | 4 => 4 | n => n, fun | n => n⟩
theorem Tryz.keys52 : Go.Proofs.SlLaysZ.n7 Tryz.prog Tryz.keys52_ren := {
  mixed := by kernel_rfl
  f7 := ⟨Tryz.f52.name, by decide, Tryz.func52.trans (congrArg some (by kernel_rfl))⟩
  f10 := ⟨Tryz.f116.name, by decide, Tryz.func116.trans (congrArg some (by kernel_rfl))⟩
  t0 := Tryz.underlying0
  a0 := Tryz.isAgg0
  z0 := Tryz.sizeOf0
  v0 := Tryz.zeroValue0
  t4 := Tryz.underlying4
  a4 := Tryz.isAgg4
  z4 := Tryz.sizeOf4
  v4 := Tryz.zeroValue4
  t23 := Tryz.underlying116
  a23 := Tryz.isAgg116
  z23 := Tryz.sizeOf116
  v23 := Tryz.zeroValue116
  t26 := Tryz.underlying9
  a26 := Tryz.isAgg9
  z26 := Tryz.sizeOf9
  v26 := Tryz.zeroValue9
  t27 := Tryz.underlying120
  a27 := Tryz.isAgg120
  z27 := Tryz.sizeOf120
  v27 := Tryz.zeroValue120
  t28 := Tryz.underlying121
  a28 := Tryz.isAgg121
  z28 := Tryz.sizeOf121
  v28 := Tryz.zeroValue121
  t33 := Tryz.underlying168
  a33 := Tryz.isAgg168
  z33 := Tryz.sizeOf168
  v33 := Tryz.zeroValue168 }
def Tryz.sorted51_ren : Go.Shelf.Ren := ⟨fun | 6 => 51 | 8 => 114 | 9 => 115 | 11 => 161 | 13 => 127 | 12 => 162 | 23 => 179 | 24 => 180 | 14 => 209 | 15 => 210 | 16 => 211 | 17 => 212 | 18 => 213 | 19 => 214 | 20 => 215 | 21 => 216 | 22 => 217 | 25 => 242 | 26 => 221 | 27 => 222 | 28 => 243 | 29 => 244 | 30 => 245 | 31 => 263 | n => n, fun | 26 => 9 | 28 => 121 | 24 => 57 | 0 => 0 | 3 => 3 | 37 => 210 | 48 => 265 | 50 => 267 | 4 => 4 | 40 => 259 | 39 => 258 | 45 => 195 | 5 => 5 | 9 => 9 | 51 => 295 | 55 => 299 | 57 => 313 | 58 => 314 | 33 => 168 | n => n, fun | n => n⟩
theorem Tryz.sorted51 : Go.Proofs.SlLaysZ.n6 Tryz.prog Tryz.sorted51_ren := {
  mixed := by kernel_rfl
  f6 := ⟨Tryz.f51.name, by decide, Tryz.func51.trans (congrArg some (by kernel_rfl))⟩
  f8 := ⟨Tryz.f114.name, by decide, Tryz.func114.trans (congrArg some (by kernel_rfl))⟩
  f11 := ⟨Tryz.f161.name, by decide, Tryz.func161.trans (congrArg some (by kernel_rfl))⟩
  t0 := Tryz.underlying0
  a0 := Tryz.isAgg0
  z0 := Tryz.sizeOf0
  v0 := Tryz.zeroValue0
  t24 := Tryz.underlying57
  a24 := Tryz.isAgg57
  z24 := Tryz.sizeOf57
  v24 := Tryz.zeroValue57
  t26 := Tryz.underlying9
  a26 := Tryz.isAgg9
  z26 := Tryz.sizeOf9
  v26 := Tryz.zeroValue9
  t28 := Tryz.underlying121
  a28 := Tryz.isAgg121
  z28 := Tryz.sizeOf121
  v28 := Tryz.zeroValue121
  i26 := by kernel_rfl }
def Tryz.sort115_ren : Go.Shelf.Ren := ⟨fun | 6 => 115 | 8 => 127 | 9 => 162 | 19 => 179 | 20 => 180 | 21 => 209 | 22 => 210 | 23 => 211 | 24 => 212 | 25 => 213 | 26 => 214 | 27 => 215 | 28 => 216 | 29 => 217 | 36 => 242 | 31 => 221 | 32 => 222 | 37 => 243 | 38 => 244 | 39 => 245 | 41 => 263 | n => n, fun | 27 => 57 | 29 => 9 | 3 => 3 | 32 => 210 | 26 => 57 | 0 => 0 | 44 => 265 | 46 => 267 | 4 => 4 | 36 => 259 | 35 => 258 | 41 => 195 | 5 => 5 | 9 => 9 | 53 => 295 | 57 => 299 | 63 => 313 | 64 => 314 | n => n, fun | n => n⟩
theorem Tryz.sort115 : Go.Proofs.SlLaysM.n6 Tryz.prog Tryz.sort115_ren := {
  mixed := by kernel_rfl
  f6 := ⟨Tryz.f115.name, by decide, Tryz.func115.trans (congrArg some (by kernel_rfl))⟩
  f8 := Tryz.func127.trans (congrArg some (by kernel_rfl))
  f9 := ⟨Tryz.f162.name, by decide, Tryz.func162.trans (congrArg some (by kernel_rfl))⟩
  f19 := Tryz.func179.trans (congrArg some (by kernel_rfl))
  f20 := Tryz.func180.trans (congrArg some (by kernel_rfl))
  f21 := ⟨Tryz.f209.name, by decide, Tryz.func209.trans (congrArg some (by kernel_rfl))⟩
  f22 := ⟨Tryz.f210.name, by decide, Tryz.func210.trans (congrArg some (by kernel_rfl))⟩
  f23 := ⟨Tryz.f211.name, by decide, Tryz.func211.trans (congrArg some (by kernel_rfl))⟩
  f24 := ⟨Tryz.f212.name, by decide, Tryz.func212.trans (congrArg some (by kernel_rfl))⟩
  f25 := ⟨Tryz.f213.name, by decide, Tryz.func213.trans (congrArg some (by kernel_rfl))⟩
  f26 := ⟨Tryz.f214.name, by decide, Tryz.func214.trans (congrArg some (by kernel_rfl))⟩
  f27 := ⟨Tryz.f215.name, by decide, Tryz.func215.trans (congrArg some (by kernel_rfl))⟩
  f28 := ⟨Tryz.f216.name, by decide, Tryz.func216.trans (congrArg some (by kernel_rfl))⟩
  f29 := ⟨Tryz.f217.name, by decide, Tryz.func217.trans (congrArg some (by kernel_rfl))⟩
  f31 := Tryz.func221.trans (congrArg some (by kernel_rfl))
  f32 := Tryz.func222.trans (congrArg some (by kernel_rfl))
  f36 := ⟨Tryz.f242.name, by decide, Tryz.func242.trans (congrArg some (by kernel_rfl))⟩
  f37 := ⟨Tryz.f243.name, by decide, Tryz.func243.trans (congrArg some (by kernel_rfl))⟩
  f38 := ⟨Tryz.f244.name, by decide, Tryz.func244.trans (congrArg some (by kernel_rfl))⟩
  f39 := ⟨Tryz.f245.name, by decide, Tryz.func245.trans (congrArg some (by kernel_rfl))⟩
  f41 := ⟨Tryz.f263.name, by decide, Tryz.func263.trans (congrArg some (by kernel_rfl))⟩
  t0 := Tryz.underlying0
  a0 := Tryz.isAgg0
  z0 := Tryz.sizeOf0
  v0 := Tryz.zeroValue0
  t3 := Tryz.underlying3
  a3 := Tryz.isAgg3
  z3 := Tryz.sizeOf3
  v3 := Tryz.zeroValue3
  t4 := Tryz.underlying4
  a4 := Tryz.isAgg4
  z4 := Tryz.sizeOf4
  v4 := Tryz.zeroValue4
  t5 := Tryz.underlying5
  a5 := Tryz.isAgg5
  z5 := Tryz.sizeOf5
  v5 := Tryz.zeroValue5
  t9 := Tryz.underlying9
  a9 := Tryz.isAgg9
  z9 := Tryz.sizeOf9
  v9 := Tryz.zeroValue9
  t26 := Tryz.underlying57
  a26 := Tryz.isAgg57
  z26 := Tryz.sizeOf57
  v26 := Tryz.zeroValue57
  t27 := Tryz.underlying57
  a27 := Tryz.isAgg57
  z27 := Tryz.sizeOf57
  v27 := Tryz.zeroValue57
  t29 := Tryz.underlying9
  a29 := Tryz.isAgg9
  z29 := Tryz.sizeOf9
  v29 := Tryz.zeroValue9
  t32 := Tryz.underlying210
  a32 := Tryz.isAgg210
  z32 := Tryz.sizeOf210
  v32 := Tryz.zeroValue210
  t35 := Tryz.underlying258
  a35 := Tryz.isAgg258
  z35 := Tryz.sizeOf258
  v35 := Tryz.zeroValue258
  t36 := Tryz.underlying259
  a36 := Tryz.isAgg259
  z36 := Tryz.sizeOf259
  v36 := Tryz.zeroValue259
  t41 := Tryz.underlying195
  a41 := Tryz.isAgg195
  z41 := Tryz.sizeOf195
  v41 := Tryz.zeroValue195
  t44 := Tryz.underlying265
  a44 := Tryz.isAgg265
  z44 := Tryz.sizeOf265
  v44 := Tryz.zeroValue265
  t46 := Tryz.underlying267
  a46 := Tryz.isAgg267
  z46 := Tryz.sizeOf267
  v46 := Tryz.zeroValue267
  t53 := Tryz.underlying295
  a53 := Tryz.isAgg295
  z53 := Tryz.sizeOf295
  v53 := Tryz.zeroValue295
  t57 := Tryz.underlying299
  a57 := Tryz.isAgg299
  z57 := Tryz.sizeOf299
  v57 := Tryz.zeroValue299
  t63 := Tryz.underlying313
  a63 := Tryz.isAgg313
  z63 := Tryz.sizeOf313
  v63 := Tryz.zeroValue313
  t64 := Tryz.underlying314
  a64 := Tryz.isAgg314
  z64 := Tryz.sizeOf314
  v64 := Tryz.zeroValue314 }
section
open Go Go.RowKit Go.Maps Go.Sort Go.Shelf

theorem Tryz.sorts51 (m : Nat) : AnyZ.SortsIn Tryz.prog Tryz.sorted51_ren Fence.wide m :=
  ⟨fun blk off cap ss W hH hblk hsz => callsIn_wide.2 (AnyM.slices_Sort_string Tryz.sort115 blk off cap ss W hH hblk hsz),
   fun p cap W => callsIn_wide.2 (AnyM.slices_Sort_string_none Tryz.sort115 p cap W)⟩


theorem Tryz.maps_Keys_52 (mb : Option Nat) (W : World) : CallsIn Fence.wide 5 Tryz.prog 52 #[.map mb] W fun e w' => e = .returned (.func (.func 116) #[] #[.pointer (some ⟨W.heap.size, 0, none⟩)]) ∧ w' = W.alloc (.cells #[.map mb] 116) :=
  AnyZ.keys_in Tryz.keys52 Fence.wide 5 trivial rfl mb W

set_option maxHeartbeats 1000000 in

theorem Tryz.slices_Sorted_keys_51_52 {H : Type} (b nn : Nat) (D0 : DataW H) (R : Value → Option (DataW H × List MemPlace)) (w : World) (hown : w.ownsMap Tryz.prog 9 R b nn D0) (hmax : Maps.size D0 ≤ maxLen) (hbytes : Maps.size D0 * 16 ≤ 140737488355328) :
    CallsIn Fence.wide 5 Tryz.prog 51 #[.func (.func 116) #[] #[.pointer (some ⟨w.heap.size, 0, none⟩)]] (w.alloc (.cells #[.map (some b)] 116)) fun e w' => ∃ (v : Value) (ss : List (List UInt8)), e = .returned v ∧ ss.Perm (strKeys D0) ∧
      w'.ownsRow (w.alloc (.cells #[.map (some b)] 116)).heap.size 9 1 v ss.length ((ss.mergeSort (fun x y => decide (x ≤ y))).map encStr) ∧ (v = .slice none 0 0 ↔ ss = []) ∧ Below (w.alloc (.cells #[.map (some b)] 116)).heap.size (w.alloc (.cells #[.map (some b)] 116)) w' := by
  have hbl := hown.lt
  have hseq : SeqGives Fence.wide 2 Tryz.prog 116 #[.pointer (some ⟨w.heap.size, 0, none⟩)] encStr (fun ss => ss.Perm (strKeys D0)) (Maps.size D0) (w.alloc (.cells #[.map (some b)] 116)) :=
    AnyZ.keys_gives (ρ := Tryz.keys52_ren) { Tryz.keys52 with } Fence.wide _ trivial rfl (by omega) w.heap.size b nn D0 _ (by simp) (by simp) (by
      obtain ⟨es, clock, hb, Ft, hs, hD⟩ := hown
      exact ⟨es, clock, (Below.heap_alloc _ _ b hbl).trans hb, Ft, hs, hD⟩)
  exact AnyZ.sorted_in Tryz.sorted51 Fence.wide 5 trivial trivial trivial trivial rfl (by omega) (Tryz.sorts51 _) (enters_of Tryz.func115 (by kernel_rfl) rfl) 116 #[.pointer (some ⟨w.heap.size, 0, none⟩)] trivial (enters_of Tryz.func116 (by kernel_rfl) rfl) _ _ hmax hbytes _ hseq

set_option maxHeartbeats 1000000 in

theorem Tryz.slices_Sorted_keys_nil_51_52 (w : World) :
    CallsIn Fence.wide 5 Tryz.prog 51 #[.func (.func 116) #[] #[.pointer (some ⟨w.heap.size, 0, none⟩)]] (w.alloc (.cells #[.map none] 116)) fun e w' => ∃ (v : Value) (ss : List (List UInt8)), e = .returned v ∧ ss = [] ∧
      w'.ownsRow (w.alloc (.cells #[.map none] 116)).heap.size 9 1 v ss.length ((ss.mergeSort (fun x y => decide (x ≤ y))).map encStr) ∧ (v = .slice none 0 0 ↔ ss = []) ∧ Below (w.alloc (.cells #[.map none] 116)).heap.size (w.alloc (.cells #[.map none] 116)) w' := by
  have hseq : SeqGives Fence.wide 2 Tryz.prog 116 #[.pointer (some ⟨w.heap.size, 0, none⟩)] encStr (fun ss : List (List UInt8) => ss = []) 0 (w.alloc (.cells #[.map none] 116)) :=
    AnyZ.keys_gives_nil (ρ := Tryz.keys52_ren) { Tryz.keys52 with } Fence.wide _ trivial rfl w.heap.size _ (by simp) (by simp)
  exact AnyZ.sorted_in Tryz.sorted51 Fence.wide 5 trivial trivial trivial trivial rfl (by omega) (Tryz.sorts51 _) (enters_of Tryz.func115 (by kernel_rfl) rfl) 116 #[.pointer (some ⟨w.heap.size, 0, none⟩)] trivial (enters_of Tryz.func116 (by kernel_rfl) rfl) _ 0 (Nat.zero_le _) (by omega) _ hseq


end
end Go.Proofs
/-
  slices.Sorted(maps.Keys(m)) of a race's field by a contract: its keys, rising.
-/
namespace Go.Proofs.YthbcogekfdllmaaGreatDoor
open Go Go.RowKit

theorem cmpL_of_le {x y : List UInt8} (h : x ≤ y) (hn : x ≠ y) : Lib.compareBytes x y < 0 := by
  have h1 := cmpL_ge y x
  rw [Go.Proofs.bytesLess_eq] at h1
  have h2 : (decide (y < x) || y == x) = false := by
    rw [decide_eq_false (List.not_lt.2 h), Bool.false_or]
    simpa using fun e : y = x => hn e.symm
  rw [h2] at h1
  have := of_decide_eq_false h1
  omega
theorem keys_rise {ss : List (List UInt8)} {ks : List ByteArray} (hp : ss.Perm (ks.map (fun s => s.data.toList))) (hn : ks.Nodup) :
    ∃ kb : List ByteArray, kb.Perm ks ∧ kb.Pairwise (fun a b => cmpS a b < 0) ∧ (ss.mergeSort (fun x y => decide (x ≤ y))).map encStr = strsV kb := by
  have hs : (ss.mergeSort (fun x y => decide (x ≤ y))).Pairwise (fun a b => a ≤ b) := by
    have := List.pairwise_mergeSort (le := fun x y : List UInt8 => decide (x ≤ y)) (fun a b c h1 h2 => decide_eq_true (List.le_trans (of_decide_eq_true h1) (of_decide_eq_true h2))) (fun a b => by
      rcases List.le_total a b with h | h
      · rw [decide_eq_true h]; rfl
      · rw [decide_eq_true h]; simp) ss
    exact this.imp (fun h => of_decide_eq_true h)
  have hps := (List.mergeSort_perm ss (fun x y => decide (x ≤ y))).trans hp
  have hnd : (ss.mergeSort (fun x y => decide (x ≤ y))).Nodup := hps.nodup_iff.2 (List.pairwise_map.2 (hn.imp (fun hne he => hne (ba_inj he))))
  obtain ⟨so, hso⟩ : ∃ so, so = ss.mergeSort (fun x y => decide (x ≤ y)) := ⟨_, rfl⟩
  rw [← hso] at hs hps hnd ⊢
  refine ⟨so.map (fun x => (⟨x.toArray⟩ : ByteArray)), ?_, ?_, ?_⟩
  · have := hps.map (fun x => (⟨x.toArray⟩ : ByteArray))
    rw [List.map_map] at this
    have e : ((fun x : List UInt8 => (⟨x.toArray⟩ : ByteArray)) ∘ fun s : ByteArray => s.data.toList) = id := by funext s; simp
    rw [e, List.map_id] at this
    exact this
  · rw [List.pairwise_map]
    refine List.Pairwise.imp₂ (fun x y h1 h2 => ?_) hs hnd
    show Lib.compareBytes _ _ < 0
    simpa using cmpL_of_le h1 h2
  · unfold strsV
    rw [List.map_map]
    refine List.map_congr_left (fun x _ => ?_)
    rfl
theorem keysE_calls (mb : Option Nat) (W : World) : Calls Tryz.prog 52 #[.map mb] W
    fun e w' => e = .returned (.func (.func 116) #[] #[.pointer (some ⟨W.heap.size, 0, none⟩)]) ∧ w' = W.alloc (.cells #[.map mb] 116) :=
  (callsIn_wide (n := 5)).1 (Tryz.maps_Keys_52 mb W)
/-- sorted keys in new memory -/
def KeyR (ks : List ByteArray) (w : World) (e : Ending) (w' : World) : Prop :=
  ∃ (v : Value) (kb : List ByteArray), e = .returned v ∧ kb.Perm ks ∧ kb.Pairwise (fun a b => cmpS a b < 0) ∧ w'.ownsRow w.heap.size 9 1 v kb.length (strsV kb) ∧ Below w.heap.size w w'
theorem sortedE_calls (b n : Nat) (f : ByteArray → Option Value) (ks : List ByteArray) (w : World) (hm : MapS w 9 b n f) (hK : KeysM f ks) (hn : n ≤ 100000) :
    Calls Tryz.prog 51 #[.func (.func 116) #[] #[.pointer (some ⟨w.heap.size, 0, none⟩)]] (w.alloc (.cells #[.map (some b)] 116)) (KeyR ks (w.alloc (.cells #[.map (some b)] 116))) := by
  obtain ⟨D, h1, h2⟩ := hm
  have hsz := h1.size_le
  have h := (callsIn_wide (n := 5)).1 (Tryz.slices_Sorted_keys_51_52 b n D tokR w h1 (by unfold maxLen; omega) (by omega))
  refine h.mono ?_
  rintro e w' ⟨v, ss, rfl, hp, ho, _, hb⟩
  have hkp := keys_perm Tryz.underlying9 h1 (fun s hs => (h2 s hs).1) hK
  obtain ⟨kb, k1, k2, k3⟩ := keys_rise (hp.trans hkp.symm) hK.nd
  have hl : ss.length = kb.length := by
    have e1 := congrArg List.length k3
    rw [List.length_map, (List.mergeSort_perm ss _).length_eq] at e1
    rw [e1]
    unfold strsV
    rw [List.length_map]
  rw [k3, hl] at ho
  exact ⟨v, kb, rfl, k1, k2, ho, hb⟩
end Go.Proofs.YthbcogekfdllmaaGreatDoor
/-
  Clashes and CheckAway in plain words. No Go text is named here.
-/
namespace Go.Proofs.YthbcogekfdllmaaGreatDoor
open Go Go.RowKit

abbrev Pr := ByteArray × ByteArray
def prC (p : Pr) : List Value := [.string p.1, .string p.2]
end Go.Proofs.YthbcogekfdllmaaGreatDoor

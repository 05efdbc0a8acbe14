/-
  How long each one reigned: a map of numbers, in plain words and in memory.
-/
import Derived.Test.YtapgnaimbgjcnaaGreatDoorZMapR
import Derived.Test.YtapgnaimbgjcnaaGreatDoorZTk
import Derived.Test.YtapgnaimbgjcnaaGreatDoorZSortMem
import Derived.Shelf.SlGeneric
import Derived.Shelf.SlIter.Nil
import Derived.Shelf.SortM.Plain
import Derived.Shelf.SortM.SortNone
import Derived.Test.YtapgnaimbgjcnaaGreatDoorProg
import Derived.Shelf.SlSortCmp.Insertion1
import Derived.Test.YtapgnaimbgjcnaaGreatDoorZTakF
import Derived.Test.YtapgnaimbgjcnaaGreatDoorZBid3
import Derived.Deep.DeepCutAuto
import Derived.Shelf.SlSortCmp.InsertionK
import Derived.Test.YtapgnaimbgjcnaaGreatDoorZDk5
import Derived.Shelf.SlSortCmp.NoneTotal
namespace Go.Proofs.YtapgnaimbgjcnaaGreatDoor
open Go Go.RowKit
abbrev LgM := ByteArray → Option Int
def lgS (g : LgM) (r : Rgn) : LgM := fun s => if s = r.who then some (IntKind.i64.wrap ((g r.who).getD 0 + IntKind.i64.wrap (r.to_ - r.from_))) else g s
def lgF (H : List Rgn) : LgM := H.foldl lgS (fun _ => none)
theorem any_mem (ks : List ByteArray) (s : ByteArray) : ks.any (fun k => decide (k = s)) = true ↔ s ∈ ks := by
 rw [List.any_eq_true]
 exact ⟨fun ⟨k, h1, h2⟩ => of_decide_eq_true h2 ▸ h1, fun h => ⟨s, h, decide_eq_true rfl⟩⟩
def lgKS (ks : List ByteArray) (r : Rgn) : List ByteArray := if ks.any (fun k => decide (k = r.who)) = true then ks else ks ++ [r.who]
def lgKs (H : List Rgn) : List ByteArray := H.foldl lgKS []
def lgV (g : LgM) : ByteArray → Option Value := fun s => (g s).map (Value.int .i64)
theorem lgV_step (g : LgM) (r : Rgn) (V : Int) (hV : IntKind.i64.wrap ((g r.who).getD 0 + IntKind.i64.wrap (r.to_ - r.from_)) = V) : upd (lgV g) r.who (.int .i64 V) = lgV (lgS g r) := by
 funext s
 unfold upd lgV lgS
 by_cases h : s = r.who
 · rw [if_pos h, if_pos h, hV]; rfl
 · rw [if_neg h, if_neg h]
theorem lgF_snoc (H : List Rgn) (r : Rgn) : lgF (H ++ [r]) = lgS (lgF H) r := by unfold lgF; rw [List.foldl_append]; rfl
theorem lgKs_snoc (H : List Rgn) (r : Rgn) : lgKs (H ++ [r]) = lgKS (lgKs H) r := by unfold lgKs; rw [List.foldl_append]; rfl
theorem lg_keys : ∀ (H : List Rgn), (∀ r ∈ H, r.who.size ≤ maxLen) → KeysM (lgV (lgF H)) (lgKs H) := by
 intro H
 have main : ∀ n, ∀ H : List Rgn, H.length = n → (∀ r ∈ H, r.who.size ≤ maxLen) → KeysM (lgV (lgF H)) (lgKs H) := by
  intro n
  induction n with
  | zero =>
    intro H h0 _
    obtain rfl := List.length_eq_zero_iff.1 h0
    exact KeysM.nil
  | succ n ih =>
    intro H hn hz
    rcases List.eq_nil_or_concat H with rfl | ⟨q, r, rfl⟩
    · simp at hn
    · rw [List.concat_eq_append] at hn hz ⊢
      have hq : q.length = n := by simpa using hn
      have hI := ih q hq (fun x hx => hz x (List.mem_append_left _ hx))
      have hr := hz r (List.mem_append_right _ (List.mem_singleton.2 rfl))
      rw [lgF_snoc, lgKs_snoc]
      unfold lgKS
      by_cases hm : r.who ∈ lgKs q
      · rw [if_pos ((any_mem _ _).2 hm)]
        refine ⟨hI.nd, hI.sz, fun s hs => ?_⟩
        rw [hI.iff s hs]
        unfold lgV lgS
        by_cases he : s = r.who
        · rw [if_pos he]
          subst he
          have := (hI.iff _ hs).1 hm
          unfold lgV at this
          simp [this]
        · rw [if_neg he]
      · rw [if_neg (fun h => hm ((any_mem _ _).1 h))]
        refine ⟨?_, fun s hs => ?_, fun s hs => ?_⟩
        · exact List.nodup_append.2 ⟨hI.nd, by simp, fun a ha b hb => by
           have hb := List.mem_singleton.1 hb
           subst hb
           exact fun e => hm (e ▸ ha)⟩
        · rcases List.mem_append.1 hs with h | h
          · exact hI.sz s h
          · rw [List.mem_singleton.1 h]; exact hr
        · rw [List.mem_append, List.mem_singleton, hI.iff s hs]
          unfold lgV lgS
          by_cases he : s = r.who
          · simp [he]
          · rw [if_neg he]
            simp [he]
 exact main H.length H rfl
theorem lgKs_len (H : List Rgn) : (lgKs H).length ≤ H.length := by
 have main : ∀ (H : List Rgn) (ks : List ByteArray), (H.foldl lgKS ks).length ≤ ks.length + H.length := by
  intro H
  induction H with
  | nil => intro ks; exact Nat.le_refl _
  | cons r t ih =>
    intro ks
    have h := ih (lgKS ks r)
    have h2 : (lgKS ks r).length ≤ ks.length + 1 := by
     unfold lgKS
     split
     · omega
     · simp
    show (t.foldl lgKS (lgKS ks r)).length ≤ _
    rw [List.length_cons]
    omega
 have := main H []
 rw [List.length_nil, Nat.zero_add] at this
 exact this
def cmpG (g : LgM) (x y : ByteArray) : Int := if cmpI ((g y).getD 0) ((g x).getD 0) = 0 then cmpS x y else cmpI ((g y).getD 0) ((g x).getD 0)
theorem lg_look {W : World} {m n : Nat} {g : LgM} (h : MapS W 9 m n (lgV g)) {s : ByteArray} (hs : s.size ≤ maxLen) :
 (Instr.lookup 100 (.map (some m)) (.string s) false).run Tryz.prog W = .ok (.int .i64 ((g s).getD 0)) W := by
 have h1 := h.look (t := 100) (e := 3) Tryz.underlying9 Tryz.underlying100 (z := .int .i64 0) (by kernel_rfl) (s := s) hs
 unfold lgV at h1
 cases hg : g s with
 | none => rw [hg] at h1; exact h1
 | some v => rw [hg] at h1; exact h1
theorem lg_put {w W : World} {m n : Nat} {g : LgM} {l : List Rsc} (h : Sq w W (rMap 9 m n (lgV g) :: l)) (hn : n < maxLen) (r : Rgn) (hs : r.who.size ≤ maxLen) (V : Int) (hV : IntKind.i64.wrap ((g r.who).getD 0 + IntKind.i64.wrap (r.to_ - r.from_)) = V) :
 ∃ W', (Instr.mapUpdate 100 (.map (some m)) (.string r.who) (.int .i64 V)).run Tryz.prog W = .ok () W' ∧ Sq w W' (rMap 9 m (n + 1) (lgV (lgS g r)) :: l) := by
 obtain ⟨W', h1, h2⟩ := map_put Tryz.underlying100 h hn hs (.int .i64 V)
 rw [lgV_step g r V hV] at h2
 exact ⟨W', h1, h2⟩
end Go.Proofs.YtapgnaimbgjcnaaGreatDoor
/-
  DERIVED: THE SHELF's CONTRACTS AT THIS DUMP, IN PLAIN WORDS (tools/lay-plain.mjs out of 'TryzShelf.lean', which tools/lay-shelf.mjs wrote): THE SAME DECLARATIONS UNDER THE SAME NAMES: 'import', 'namespace', 'open', 'def', 'theorem' AND NOTHING ELSE: no command of the shelf's: FOR A HAND-IN. Each laying: the table of numbers ('.._ren') and one theorem, a field a fact of the dump's own or the kernel's comparison; each contract: ONE APPLICATION.
-/
namespace Go.Proofs
open Go.Shelf
def Tryz.keys59_ren : Go.Shelf.Ren := ⟨fun | 7 => 59 | 10 => 119 | n => n, fun | 23 => 100 | 26 => 9 | 3 => 3 | 28 => 103 | 0 => 0 | 27 => 102 | 33 => 111 | 4 => 4 | n => n, fun | n => n⟩
theorem Tryz.keys59 : Go.Proofs.SlLaysZ.n7 Tryz.prog Tryz.keys59_ren := {
 mixed := by kernel_rfl
 f7 := ⟨Tryz.f59.name, by decide, Tryz.func59.trans (congrArg some (by kernel_rfl))⟩
 f10 := ⟨Tryz.f119.name, by decide, Tryz.func119.trans (congrArg some (by kernel_rfl))⟩
 t0 := Tryz.underlying0
 a0 := Tryz.isAgg0
 z0 := Tryz.sizeOf0
 v0 := Tryz.zeroValue0
 t4 := Tryz.underlying4
 a4 := Tryz.isAgg4
 z4 := Tryz.sizeOf4
 v4 := Tryz.zeroValue4
 t23 := Tryz.underlying100
 a23 := Tryz.isAgg100
 z23 := Tryz.sizeOf100
 v23 := Tryz.zeroValue100
 t26 := Tryz.underlying9
 a26 := Tryz.isAgg9
 z26 := Tryz.sizeOf9
 v26 := Tryz.zeroValue9
 t27 := Tryz.underlying102
 a27 := Tryz.isAgg102
 z27 := Tryz.sizeOf102
 v27 := Tryz.zeroValue102
 t28 := Tryz.underlying103
 a28 := Tryz.isAgg103
 z28 := Tryz.sizeOf103
 v28 := Tryz.zeroValue103
 t33 := Tryz.underlying111
 a33 := Tryz.isAgg111
 z33 := Tryz.sizeOf111
 v33 := Tryz.zeroValue111 }
def Tryz.sorted58_ren : Go.Shelf.Ren := ⟨fun | 6 => 58 | 8 => 117 | 9 => 118 | 11 => 160 | 13 => 129 | 12 => 161 | 23 => 175 | 24 => 176 | 14 => 214 | 15 => 215 | 16 => 216 | 17 => 217 | 18 => 218 | 19 => 219 | 20 => 220 | 21 => 221 | 22 => 222 | 25 => 256 | 26 => 231 | 27 => 232 | 28 => 257 | 29 => 258 | 30 => 205 | 31 => 281 | n => n, fun | 26 => 9 | 28 => 103 | 24 => 58 | 0 => 0 | 3 => 3 | 37 => 179 | 48 => 216 | 50 => 218 | 4 => 4 | 40 => 210 | 39 => 209 | 45 => 46 | 5 => 5 | 9 => 9 | 51 => 265 | 55 => 269 | 57 => 300 | 58 => 301 | 33 => 111 | n => n, fun | n => n⟩
theorem Tryz.sorted58 : Go.Proofs.SlLaysZ.n6 Tryz.prog Tryz.sorted58_ren := {
 mixed := by kernel_rfl
 f6 := ⟨Tryz.f58.name, by decide, Tryz.func58.trans (congrArg some (by kernel_rfl))⟩
 f8 := ⟨Tryz.f117.name, by decide, Tryz.func117.trans (congrArg some (by kernel_rfl))⟩
 f11 := ⟨Tryz.f160.name, by decide, Tryz.func160.trans (congrArg some (by kernel_rfl))⟩
 t0 := Tryz.underlying0
 a0 := Tryz.isAgg0
 z0 := Tryz.sizeOf0
 v0 := Tryz.zeroValue0
 t24 := Tryz.underlying58
 a24 := Tryz.isAgg58
 z24 := Tryz.sizeOf58
 v24 := Tryz.zeroValue58
 t26 := Tryz.underlying9
 a26 := Tryz.isAgg9
 z26 := Tryz.sizeOf9
 v26 := Tryz.zeroValue9
 t28 := Tryz.underlying103
 a28 := Tryz.isAgg103
 z28 := Tryz.sizeOf103
 v28 := Tryz.zeroValue103
 i26 := by kernel_rfl }
def Tryz.sort118_ren : Go.Shelf.Ren := ⟨fun | 6 => 118 | 8 => 129 | 9 => 161 | 19 => 175 | 20 => 176 | 21 => 214 | 22 => 215 | 23 => 216 | 24 => 217 | 25 => 218 | 26 => 219 | 27 => 220 | 28 => 221 | 29 => 222 | 36 => 256 | 31 => 231 | 32 => 232 | 37 => 257 | 38 => 258 | 39 => 205 | 41 => 281 | n => n, fun | 27 => 58 | 29 => 9 | 3 => 3 | 32 => 179 | 26 => 58 | 0 => 0 | 44 => 216 | 46 => 218 | 4 => 4 | 36 => 210 | 35 => 209 | 41 => 46 | 5 => 5 | 9 => 9 | 53 => 265 | 57 => 269 | 63 => 300 | 64 => 301 | n => n, fun | n => n⟩
theorem Tryz.sort118 : Go.Proofs.SlLaysM.n6 Tryz.prog Tryz.sort118_ren := {
 mixed := by kernel_rfl
 f6 := ⟨Tryz.f118.name, by decide, Tryz.func118.trans (congrArg some (by kernel_rfl))⟩
 f8 := Tryz.func129.trans (congrArg some (by kernel_rfl))
 f9 := ⟨Tryz.f161.name, by decide, Tryz.func161.trans (congrArg some (by kernel_rfl))⟩
 f19 := Tryz.func175.trans (congrArg some (by kernel_rfl))
 f20 := Tryz.func176.trans (congrArg some (by kernel_rfl))
 f21 := ⟨Tryz.f214.name, by decide, Tryz.func214.trans (congrArg some (by kernel_rfl))⟩
 f22 := ⟨Tryz.f215.name, by decide, Tryz.func215.trans (congrArg some (by kernel_rfl))⟩
 f23 := ⟨Tryz.f216.name, by decide, Tryz.func216.trans (congrArg some (by kernel_rfl))⟩
 f24 := ⟨Tryz.f217.name, by decide, Tryz.func217.trans (congrArg some (by kernel_rfl))⟩
 f25 := ⟨Tryz.f218.name, by decide, Tryz.func218.trans (congrArg some (by kernel_rfl))⟩
 f26 := ⟨Tryz.f219.name, by decide, Tryz.func219.trans (congrArg some (by kernel_rfl))⟩
 f27 := ⟨Tryz.f220.name, by decide, Tryz.func220.trans (congrArg some (by kernel_rfl))⟩
 f28 := ⟨Tryz.f221.name, by decide, Tryz.func221.trans (congrArg some (by kernel_rfl))⟩
 f29 := ⟨Tryz.f222.name, by decide, Tryz.func222.trans (congrArg some (by kernel_rfl))⟩
 f31 := Tryz.func231.trans (congrArg some (by kernel_rfl))
 f32 := Tryz.func232.trans (congrArg some (by kernel_rfl))
 f36 := ⟨Tryz.f256.name, by decide, Tryz.func256.trans (congrArg some (by kernel_rfl))⟩
 f37 := ⟨Tryz.f257.name, by decide, Tryz.func257.trans (congrArg some (by kernel_rfl))⟩
 f38 := ⟨Tryz.f258.name, by decide, Tryz.func258.trans (congrArg some (by kernel_rfl))⟩
 f39 := ⟨Tryz.f205.name, by decide, Tryz.func205.trans (congrArg some (by kernel_rfl))⟩
 f41 := ⟨Tryz.f281.name, by decide, Tryz.func281.trans (congrArg some (by kernel_rfl))⟩
 t0 := Tryz.underlying0
 a0 := Tryz.isAgg0
 z0 := Tryz.sizeOf0
 v0 := Tryz.zeroValue0
 t3 := Tryz.underlying3
 a3 := Tryz.isAgg3
 z3 := Tryz.sizeOf3
 v3 := Tryz.zeroValue3
 t4 := Tryz.underlying4
 a4 := Tryz.isAgg4
 z4 := Tryz.sizeOf4
 v4 := Tryz.zeroValue4
 t5 := Tryz.underlying5
 a5 := Tryz.isAgg5
 z5 := Tryz.sizeOf5
 v5 := Tryz.zeroValue5
 t9 := Tryz.underlying9
 a9 := Tryz.isAgg9
 z9 := Tryz.sizeOf9
 v9 := Tryz.zeroValue9
 t26 := Tryz.underlying58
 a26 := Tryz.isAgg58
 z26 := Tryz.sizeOf58
 v26 := Tryz.zeroValue58
 t27 := Tryz.underlying58
 a27 := Tryz.isAgg58
 z27 := Tryz.sizeOf58
 v27 := Tryz.zeroValue58
 t29 := Tryz.underlying9
 a29 := Tryz.isAgg9
 z29 := Tryz.sizeOf9
 v29 := Tryz.zeroValue9
 t32 := Tryz.underlying179
 a32 := Tryz.isAgg179
 z32 := Tryz.sizeOf179
 v32 := Tryz.zeroValue179
 t35 := Tryz.underlying209
 a35 := Tryz.isAgg209
 z35 := Tryz.sizeOf209
 v35 := Tryz.zeroValue209
 t36 := Tryz.underlying210
 a36 := Tryz.isAgg210
 z36 := Tryz.sizeOf210
 v36 := Tryz.zeroValue210
 t41 := Tryz.underlying46
 a41 := Tryz.isAgg46
 z41 := Tryz.sizeOf46
 v41 := Tryz.zeroValue46
 t44 := Tryz.underlying216
 a44 := Tryz.isAgg216
 z44 := Tryz.sizeOf216
 v44 := Tryz.zeroValue216
 t46 := Tryz.underlying218
 a46 := Tryz.isAgg218
 z46 := Tryz.sizeOf218
 v46 := Tryz.zeroValue218
 t53 := Tryz.underlying265
 a53 := Tryz.isAgg265
 z53 := Tryz.sizeOf265
 v53 := Tryz.zeroValue265
 t57 := Tryz.underlying269
 a57 := Tryz.isAgg269
 z57 := Tryz.sizeOf269
 v57 := Tryz.zeroValue269
 t63 := Tryz.underlying300
 a63 := Tryz.isAgg300
 z63 := Tryz.sizeOf300
 v63 := Tryz.zeroValue300
 t64 := Tryz.underlying301
 a64 := Tryz.isAgg301
 z64 := Tryz.sizeOf301
 v64 := Tryz.zeroValue301 }
section
open Go Go.RowKit Go.Maps Go.Sort Go.Shelf
theorem Tryz.sorts58 (m : Nat) : AnyZ.SortsIn Tryz.prog Tryz.sorted58_ren Fence.wide m :=
 ⟨fun blk off cap ss W hH hblk hsz => callsIn_wide.2 (AnyM.slices_Sort_string Tryz.sort118 blk off cap ss W hH hblk hsz),
  fun p cap W => callsIn_wide.2 (AnyM.slices_Sort_string_none Tryz.sort118 p cap W)⟩
theorem Tryz.maps_Keys_59 (mb : Option Nat) (W : World) : CallsIn Fence.wide 5 Tryz.prog 59 #[.map mb] W fun e w' => e = .returned (.func (.func 119) #[] #[.pointer (some ⟨W.heap.size, 0, none⟩)]) ∧ w' = W.alloc (.cells #[.map mb] 100) :=
 AnyZ.keys_in Tryz.keys59 Fence.wide 5 trivial rfl mb W
set_option maxHeartbeats 1000000 in
theorem Tryz.slices_Sorted_keys_58_59 {H : Type} (b nn : Nat) (D0 : DataW H) (R : Value → Option (DataW H × List MemPlace)) (w : World) (hown : w.ownsMap Tryz.prog 9 R b nn D0) (hmax : Maps.size D0 ≤ maxLen) (hbytes : Maps.size D0 * 16 ≤ 140737488355328) :
 CallsIn Fence.wide 5 Tryz.prog 58 #[.func (.func 119) #[] #[.pointer (some ⟨w.heap.size, 0, none⟩)]] (w.alloc (.cells #[.map (some b)] 100)) fun e w' => ∃ (v : Value) (ss : List (List UInt8)), e = .returned v ∧ ss.Perm (strKeys D0) ∧
  w'.ownsRow (w.alloc (.cells #[.map (some b)] 100)).heap.size 9 1 v ss.length ((ss.mergeSort (fun x y => decide (x ≤ y))).map encStr) ∧ (v = .slice none 0 0 ↔ ss = []) ∧ Below (w.alloc (.cells #[.map (some b)] 100)).heap.size (w.alloc (.cells #[.map (some b)] 100)) w' := by
 have hbl := hown.lt
 have hseq : SeqGives Fence.wide 2 Tryz.prog 119 #[.pointer (some ⟨w.heap.size, 0, none⟩)] encStr (fun ss => ss.Perm (strKeys D0)) (Maps.size D0) (w.alloc (.cells #[.map (some b)] 100)) :=
  AnyZ.keys_gives (ρ := Tryz.keys59_ren) { Tryz.keys59 with } Fence.wide _ trivial rfl (by omega) w.heap.size b nn D0 _ (by simp) (by simp) (by
   obtain ⟨es, clock, hb, Ft, hs, hD⟩ := hown
   exact ⟨es, clock, (Below.heap_alloc _ _ b hbl).trans hb, Ft, hs, hD⟩)
 exact AnyZ.sorted_in Tryz.sorted58 Fence.wide 5 trivial trivial trivial trivial rfl (by omega) (Tryz.sorts58 _) (enters_of Tryz.func118 (by kernel_rfl) rfl) 119 #[.pointer (some ⟨w.heap.size, 0, none⟩)] trivial (enters_of Tryz.func119 (by kernel_rfl) rfl) _ _ hmax hbytes _ hseq
set_option maxHeartbeats 1000000 in
theorem Tryz.slices_Sorted_keys_nil_58_59 (w : World) :
 CallsIn Fence.wide 5 Tryz.prog 58 #[.func (.func 119) #[] #[.pointer (some ⟨w.heap.size, 0, none⟩)]] (w.alloc (.cells #[.map none] 100)) fun e w' => ∃ (v : Value) (ss : List (List UInt8)), e = .returned v ∧ ss = [] ∧
  w'.ownsRow (w.alloc (.cells #[.map none] 100)).heap.size 9 1 v ss.length ((ss.mergeSort (fun x y => decide (x ≤ y))).map encStr) ∧ (v = .slice none 0 0 ↔ ss = []) ∧ Below (w.alloc (.cells #[.map none] 100)).heap.size (w.alloc (.cells #[.map none] 100)) w' := by
 have hseq : SeqGives Fence.wide 2 Tryz.prog 119 #[.pointer (some ⟨w.heap.size, 0, none⟩)] encStr (fun ss : List (List UInt8) => ss = []) 0 (w.alloc (.cells #[.map none] 100)) :=
  AnyZ.keys_gives_nil (ρ := Tryz.keys59_ren) { Tryz.keys59 with } Fence.wide _ trivial rfl w.heap.size _ (by simp) (by simp)
 exact AnyZ.sorted_in Tryz.sorted58 Fence.wide 5 trivial trivial trivial trivial rfl (by omega) (Tryz.sorts58 _) (enters_of Tryz.func118 (by kernel_rfl) rfl) 119 #[.pointer (some ⟨w.heap.size, 0, none⟩)] trivial (enters_of Tryz.func119 (by kernel_rfl) rfl) _ 0 (Nat.zero_le _) (by omega) _ hseq
end
end Go.Proofs
/-
  slices.Sorted(maps.Keys(m)) of a map of numbers by a contract: its keys, rising.
-/
namespace Go.Proofs.YtapgnaimbgjcnaaGreatDoor
open Go Go.RowKit
theorem cmpL_of_le {x y : List UInt8} (h : x ≤ y) (hn : x ≠ y) : Lib.compareBytes x y < 0 := by
 have h1 := cmpL_ge y x
 rw [Go.Proofs.bytesLess_eq] at h1
 have h2 : (decide (y < x) || y == x) = false := by
  rw [decide_eq_false (List.not_lt.2 h), Bool.false_or]
  simpa using fun e : y = x => hn e.symm
 rw [h2] at h1
 have := of_decide_eq_false h1
 omega
theorem keys_rise {ss : List (List UInt8)} {ks : List ByteArray} (hp : ss.Perm (ks.map (fun s => s.data.toList))) (hn : ks.Nodup) :
 ∃ kb : List ByteArray, kb.Perm ks ∧ kb.Pairwise (fun a b => cmpS a b < 0) ∧ (ss.mergeSort (fun x y => decide (x ≤ y))).map encStr = strsV kb := by
 have hs : (ss.mergeSort (fun x y => decide (x ≤ y))).Pairwise (fun a b => a ≤ b) := by
  have := List.pairwise_mergeSort (le := fun x y : List UInt8 => decide (x ≤ y)) (fun a b c h1 h2 => decide_eq_true (List.le_trans (of_decide_eq_true h1) (of_decide_eq_true h2))) (fun a b => by
   rcases List.le_total a b with h | h
   · rw [decide_eq_true h]; rfl
   · rw [decide_eq_true h]; simp) ss
  exact this.imp (fun h => of_decide_eq_true h)
 have hps := (List.mergeSort_perm ss (fun x y => decide (x ≤ y))).trans hp
 have hnd : (ss.mergeSort (fun x y => decide (x ≤ y))).Nodup := hps.nodup_iff.2 (List.pairwise_map.2 (hn.imp (fun hne he => hne (ba_inj he))))
 obtain ⟨so, hso⟩ : ∃ so, so = ss.mergeSort (fun x y => decide (x ≤ y)) := ⟨_, rfl⟩
 rw [← hso] at hs hps hnd ⊢
 refine ⟨so.map (fun x => (⟨x.toArray⟩ : ByteArray)), ?_, ?_, ?_⟩
 · have := hps.map (fun x => (⟨x.toArray⟩ : ByteArray))
   rw [List.map_map] at this
   have e : ((fun x : List UInt8 => (⟨x.toArray⟩ : ByteArray)) ∘ fun s : ByteArray => s.data.toList) = id := by funext s; simp
   rw [e, List.map_id] at this
   exact this
 · rw [List.pairwise_map]
   refine List.Pairwise.imp₂ (fun x y h1 h2 => ?_) hs hnd
   show Lib.compareBytes _ _ < 0
   simpa using cmpL_of_le h1 h2
 · unfold strsV
   rw [List.map_map]
   refine List.map_congr_left (fun x _ => ?_)
   rfl
theorem keysI_calls (mb : Option Nat) (W : World) : Calls Tryz.prog 59 #[.map mb] W
 fun e w' => e = .returned (.func (.func 119) #[] #[.pointer (some ⟨W.heap.size, 0, none⟩)]) ∧ w' = W.alloc (.cells #[.map mb] 100) :=
 (callsIn_wide (n := 5)).1 (Tryz.maps_Keys_59 mb W)
def KeyR (ks : List ByteArray) (w : World) (e : Ending) (w' : World) : Prop :=
 ∃ (v : Value) (kb : List ByteArray), e = .returned v ∧ kb.Perm ks ∧ kb.Pairwise (fun a b => cmpS a b < 0) ∧ w'.ownsRow w.heap.size 9 1 v kb.length (strsV kb) ∧ Below w.heap.size w w'
theorem sortedI_calls (b n : Nat) (f : ByteArray → Option Value) (ks : List ByteArray) (w : World) (hm : MapS w 9 b n f) (hK : KeysM f ks) (hn : n ≤ 100000) :
 Calls Tryz.prog 58 #[.func (.func 119) #[] #[.pointer (some ⟨w.heap.size, 0, none⟩)]] (w.alloc (.cells #[.map (some b)] 100)) (KeyR ks (w.alloc (.cells #[.map (some b)] 100))) := by
 obtain ⟨D, h1, h2⟩ := hm
 have hsz := h1.size_le
 have h := (callsIn_wide (n := 5)).1 (Tryz.slices_Sorted_keys_58_59 b n D tokR w h1 (by unfold maxLen; omega) (by omega))
 refine h.mono ?_
 rintro e w' ⟨v, ss, rfl, hp, ho, _, hb⟩
 have hkp := keys_perm Tryz.underlying9 h1 (fun s hs => (h2 s hs).1) hK
 obtain ⟨kb, k1, k2, k3⟩ := keys_rise (hp.trans hkp.symm) hK.nd
 have hl : ss.length = kb.length := by
  have e1 := congrArg List.length k3
  rw [List.length_map, (List.mergeSort_perm ss _).length_eq] at e1
  rw [e1]
  unfold strsV
  rw [List.length_map]
 rw [k3, hl] at ho
 exact ⟨v, kb, rfl, k1, k2, ho, hb⟩
end Go.Proofs.YtapgnaimbgjcnaaGreatDoor
/-
  DERIVED: THE SHELF's CONTRACTS AT THIS DUMP, IN PLAIN WORDS (tools/lay-plain.mjs out of 'TryzShelf.lean', which tools/lay-shelf.mjs wrote): THE SAME DECLARATIONS UNDER THE SAME NAMES: 'import', 'namespace', 'open', 'def', 'theorem' AND NOTHING ELSE: no command of the shelf's: FOR A HAND-IN. Each laying: the table of numbers ('.._ren') and one theorem, a field a fact of the dump's own or the kernel's comparison; each contract: ONE APPLICATION.
-/
namespace Go.Proofs
open Go.Shelf
def Tryz.insStr_ren : Go.Shelf.Ren := ⟨fun | 20 => 162 | n => n, fun | 24 => 9 | 22 => 58 | 3 => 3 | 25 => 106 | 4 => 4 | 0 => 0 | n => n, fun | n => n⟩
theorem Tryz.insStr : Go.Proofs.SlLaysF.n20 Tryz.prog Tryz.insStr_ren := {
 mixed := by kernel_rfl
 f20 := ⟨Tryz.f162.name, by decide, Tryz.func162.trans (congrArg some (by kernel_rfl))⟩
 t0 := Tryz.underlying0
 a0 := Tryz.isAgg0
 z0 := Tryz.sizeOf0
 v0 := Tryz.zeroValue0
 t3 := Tryz.underlying3
 a3 := Tryz.isAgg3
 z3 := Tryz.sizeOf3
 v3 := Tryz.zeroValue3
 t4 := Tryz.underlying4
 a4 := Tryz.isAgg4
 z4 := Tryz.sizeOf4
 v4 := Tryz.zeroValue4
 t22 := Tryz.underlying58
 a22 := Tryz.isAgg58
 z22 := Tryz.sizeOf58
 v22 := Tryz.zeroValue58
 a24 := Tryz.isAgg9
 z24 := Tryz.sizeOf9
 t25 := Tryz.underlying106
 a25 := Tryz.isAgg106
 z25 := Tryz.sizeOf106
 v25 := Tryz.zeroValue106 }
end Go.Proofs
/-
  board.Reigned$1 (who reigned longest) by its contract, and slices.stableCmpFunc of few strings at it.
-/
namespace Go.Proofs.YtapgnaimbgjcnaaGreatDoor
open Go Go.RowKit Go.Lib Go.Sort
def cmpV (g : LgM) (x y : ByteArray) : Int := cmpI ((g y).getD 0) ((g x).getD 0)
set_option maxRecDepth 100000 in
theorem byLg_calls (gm m n : Nat) (g : LgM) (x y : ByteArray) (W : World) (hx : x.size ≤ maxLen) (hy : y.size ≤ maxLen) (c0 : W.cell? ⟨gm, 0, none⟩ = some (.map (some m))) (hm : MapS W 9 m n (lgV g)) :
 Calls Tryz.prog 61 #[.string x, .string y, .pointer (some ⟨gm, 0, none⟩)] W (GrwT (.int .i64 (cmpV g x y)) W) := by
 have l1 := lg_look hm hy
 have l2 := lg_look hm hx
 have HC := Lib.hid (fun V => cmpInt_calls ((g y).getD 0) ((g x).getD 0) V)
 have HE : Hid (cmpV g x y = cmpI ((g y).getD 0) ((g x).getD 0)) := Lib.hid rfl
 rw [HE.out]
 clear hm HE
 obtain ⟨V1, hV1⟩ : ∃ z, (g y).getD 0 = z := ⟨_, rfl⟩
 obtain ⟨V2, hV2⟩ : ∃ z, (g x).getD 0 = z := ⟨_, rfl⟩
 rw [hV1] at l1 HC ⊢
 rw [hV2] at l2 HC ⊢
 clear hV1 hV2
 go_enter Tryz.func61, Tryz.ntmps61
 go_wp2_with fail
 refine (HC.out _).mono ?_
 rintro e w3 ⟨rfl, rfl⟩
 go_wp2_with fail
 go_ret
 exact ⟨rfl, 0, #[], (grow_empty _).symm⟩
section
variable {α : Type} [Inhabited α]
set_option maxHeartbeats 4000000 in
set_option maxRecDepth 1000000 in
theorem stableS_calls (enc : α → Value) (cf : α → α → Int) (f : Nat) (cb : Array Value) (blk cap n : Nat) (d0 : Array α) (w0 : World)
 (eg : ∀ args w, (callFunc f args).run Tryz.prog w = .ok (.enter f args) w) (hcmp : CmpLays1 Tryz.prog f cb enc cf blk 0 d0.size w0) (R : Row1 enc w0 blk 0 d0) (hn : d0.size = n) (h20 : n < 20) :
 Calls Tryz.prog 120 #[.slice (some ⟨blk, 0, none⟩) n cap, .int .i64 n, .func (.func f) #[] cb] w0 fun e w' => e = .returned (.tuple #[]) ∧ SW enc w0 blk 0 (Sort.insertionSort (ltOf cf) d0 0 n) w' := by
 have HI1 : Hid (Calls Tryz.prog 162 #[.slice (some ⟨blk, 0, none⟩) n cap, .int .i64 (0 : Nat), .int .i64 n, .func (.func f) #[] cb] w0 fun e w' => e = .returned (.tuple #[]) ∧ SW enc w0 blk 0 (Sort.insertionSort (ltOf cf) d0 0 n) w') := Lib.hid (by
  have h := Any.insertionSortCmpFunc_s Tryz.insStr enc cf f cb blk 0 cap 0 n d0 d0 w0 w0 eg hcmp R rfl (SW.start R.hH) (Nat.zero_le _) (by omega) (by omega)
  rw [hn] at h
  exact h)
 have h1 : ¬ (20 : Int) ≤ (n : Int) := by omega
 have h2 : ¬ (20 : Int) < (n : Int) := by omega
 clear hcmp R eg
 go_enter Tryz.func120, Tryz.ntmps120
 go_wp2_with fail
 go_loopw [7, 8] (fun s7 s8 wr => s7 = .int .i64 0 ∧ s8 = .int .i64 20 ∧ w0 = wr) (fun _ _ _ => 0)
 case atStart => exact ⟨rfl, rfl, rfl⟩
 case round =>
  obtain ⟨rfl, rfl, rfl⟩ := hrel
  go_wp2_with fail
  refine HI1.out.mono ?_
  rintro e w1 ⟨rfl, hys⟩
  have HY := Lib.hid hys
  clear hys
  go_wp2_with fail
  go_loopw [6] (fun s6 wr => s6 = .int .i64 20 ∧ w1 = wr) (fun _ _ => 0)
  case atStart => exact ⟨rfl, rfl⟩
  case round =>
   obtain ⟨rfl, rfl⟩ := hrel
   go_wp2_with fail
   go_end0
   exact ⟨rfl, HY.out⟩
end
end Go.Proofs.YtapgnaimbgjcnaaGreatDoor
/-
  DERIVED: THE SHELF's CONTRACTS AT THIS DUMP, IN PLAIN WORDS (tools/lay-plain.mjs out of 'TryzShelf.lean', which tools/lay-shelf.mjs wrote): THE SAME DECLARATIONS UNDER THE SAME NAMES: 'import', 'namespace', 'open', 'def', 'theorem' AND NOTHING ELSE: no command of the shelf's: FOR A HAND-IN. Each laying: the table of numbers ('.._ren') and one theorem, a field a fact of the dump's own or the kernel's comparison; each contract: ONE APPLICATION.
-/
namespace Go.Proofs
open Go.Shelf
def Tryz.insStr0_ren : Go.Shelf.Ren := ⟨fun | 20 => 162 | n => n, fun | 24 => 9 | 22 => 58 | 3 => 3 | 25 => 106 | 4 => 4 | 0 => 0 | n => n, fun | n => n⟩
theorem Tryz.insStr0 : Go.Proofs.SlLaysF0.n20 Tryz.prog Tryz.insStr0_ren := {
 mixed := by kernel_rfl
 f20 := ⟨Tryz.f162.name, by decide, Tryz.func162.trans (congrArg some (by kernel_rfl))⟩
 t0 := Tryz.underlying0
 a0 := Tryz.isAgg0
 z0 := Tryz.sizeOf0
 v0 := Tryz.zeroValue0
 t3 := Tryz.underlying3
 a3 := Tryz.isAgg3
 z3 := Tryz.sizeOf3
 v3 := Tryz.zeroValue3
 t4 := Tryz.underlying4
 a4 := Tryz.isAgg4
 z4 := Tryz.sizeOf4
 v4 := Tryz.zeroValue4
 t22 := Tryz.underlying58
 a22 := Tryz.isAgg58
 z22 := Tryz.sizeOf58
 v22 := Tryz.zeroValue58
 t25 := Tryz.underlying106
 a25 := Tryz.isAgg106
 z25 := Tryz.sizeOf106
 v25 := Tryz.zeroValue106 }
end Go.Proofs
/-
  slices.SortStableFunc of few names at board.Reigned$1: the most first, then by name.
-/
namespace Go.Proofs.YtapgnaimbgjcnaaGreatDoor
open Go Go.RowKit Go.Lib Go.Sort
theorem Ord3.swap {α : Type} {f : α → α → Int} (h : Ord3 f) : Ord3 (fun x y => f y x) := ⟨fun x y => h.neg y x, fun x y z h1 h2 => h.trans z y x h2 h1⟩
theorem ord3_cmpG (g : LgM) : Ord3 (cmpG g) := (ord3_int (fun s : ByteArray => (g s).getD 0)).swap.first (ord3_str (fun s : ByteArray => s))
theorem cmpG_after {g : LgM} {u v : ByteArray} (h : cmpS u v < 0) : ltOf (cmpG g) v u = ltOf (cmpV g) v u := by
 unfold ltOf cmpG cmpV
 by_cases h0 : cmpI ((g u).getD 0) ((g v).getD 0) = 0
 · rw [if_pos h0, h0]
   have := cmpS_neg u v
   rw [decide_eq_false (by omega), decide_eq_false (by omega)]
 · rw [if_neg h0]
theorem rMap_at {W W' : World} {m n : Nat} {g : ByteArray → Option Value} (h : MapS W 9 m n g) (hb : W'.heap[m]? = W.heap[m]?) : MapS W' 9 m n g :=
 rMap_ok 9 m n g W W' (fun i hi => by
  have hi : i = m := hi
  subst hi
  exact hb) h
instance instNam : Inhabited {s : ByteArray // s.size ≤ maxLen} := ⟨⟨⟨#[]⟩, by unfold maxLen; decide⟩⟩
set_option maxRecDepth 100000 in
theorem insS_none (w : World) (A : Option Addr) (c : Nat) (f : Nat) (cb : Array Value) :
 Calls Tryz.prog 120 #[.slice A 0 c, .int .i64 0, .func (.func f) #[] cb] w (fun e w' => e = .returned (.tuple #[]) ∧ w = w') := by
 have HI : Hid (Calls Tryz.prog 162 #[.slice A 0 c, .int .i64 0, .int .i64 0, .func (.func f) #[] cb] w (fun e w' => e = .returned (.tuple #[]) ∧ w' = w)) := Lib.hid (AnyF.insertionSortCmpFunc_none Tryz.insStr0 A c _ w)
 go_enter Tryz.func120, Tryz.ntmps120
 go_wp2_with fail
 go_loopw [7, 8] (fun s7 s8 wr => s7 = .int .i64 0 ∧ s8 = .int .i64 20 ∧ wr = w) (fun _ _ _ => 0)
 case atStart => exact ⟨rfl, rfl, rfl⟩
 case round =>
  obtain ⟨rfl, rfl, rfl⟩ := hrel
  go_wp2_with fail
  refine HI.out.mono ?_
  rintro e w1 ⟨rfl, rfl⟩
  go_wp2_with fail
  go_loopw [6] (fun s6 wr => s6 = .int .i64 20 ∧ wr = w1) (fun _ _ => 0)
  case atStart => exact ⟨rfl, rfl⟩
  case round =>
   obtain ⟨rfl, rfl⟩ := hrel
   go_wp2_with fail
   go_end0
   exact ⟨rfl, rfl⟩
def SlgR (w0 : World) (A : Option Addr) (n c : Nat) (g : LgM) (kb : List ByteArray) (l : List Rsc) (e : Ending) (w' : World) : Prop :=
 e = .returned (.tuple #[]) ∧ ∃ zs : List ByteArray, zs.Perm kb ∧ zs.Pairwise (fun a b => 0 ≤ cmpG g b a) ∧ Sq w0 w' (rOwn w0.heap.size 9 1 (.slice A n c) n (strsV zs) :: l)
theorem flat_strs (zs : List ByteArray) : zs.flatMap (fun x => [Value.string x]) = strsV zs := by
 unfold strsV
 induction zs with
 | nil => rfl
 | cons a t ih => rw [List.flatMap_cons, ih]; rfl
theorem stableLg_calls (w0 w : World) (A : Option Addr) (n c gm m nn : Nat) (g : LgM) (kb : List ByteArray) (l : List Rsc) (hl : kb.length = n) (h20 : n < 20) (hz : ∀ s ∈ kb, s.size ≤ maxLen) (hu : kb.Pairwise (fun a b => cmpS a b < 0))
 (hc0 : w.cell? ⟨gm, 0, none⟩ = some (.map (some m))) (hmp : MapS w 9 m nn (lgV g)) (hne : ∀ q, A = some ⟨q, 0, none⟩ → q ≠ gm ∧ q ≠ m ∧ gm < w.heap.size ∧ m < w.heap.size)
 (hS : Sq w0 w (rOwn w0.heap.size 9 1 (.slice A n c) n (strsV kb) :: l)) :
 Calls Tryz.prog 120 #[.slice A n c, .int .i64 n, .func (.func 61) #[] #[.pointer (some ⟨gm, 0, none⟩)]] w (SlgR w0 A n c g kb l) := by
 by_cases h0 : n = 0
 · subst h0
   have hp0 := List.length_eq_zero_iff.1 hl
   subst hp0
   refine (insS_none w A c _ _).mono ?_
   rintro e w' ⟨rfl, rfl⟩
   exact ⟨rfl, [], List.Perm.refl _, List.Pairwise.nil, hS⟩
 · obtain ⟨q, hA⟩ := own_ptr (hS.head : World.ownsRow _ _ _ _ _ _ _) (by omega)
   subst hA
   obtain ⟨hq1, hq2, hq3, hq4⟩ := hne q rfl
   obtain ⟨ds, rfl⟩ := sub_list (P := fun s : ByteArray => s.size ≤ maxLen) kb hz
   rw [List.length_map] at hl
   rw [← flat_strs] at hS
   have hown : w.ownsRow w0.heap.size 9 1 (.slice (some ⟨q, 0, none⟩) n c) n (ds.flatMap (fun x => [Value.string x.1])) := by
    have := hS.head
    rw [← sub_flat (fun x => [Value.string x])] at this
    exact this
   have hlen : ds.toArray.size = n := by simpa using hl
   have hK : HoldsK (fun x : {s : ByteArray // s.size ≤ maxLen} => [Value.string x.1]) 1 w q 0 ds.toArray := holdsK_own _ 1 (fun _ => rfl) Nat.one_pos ds.toArray (by simpa using hown)
   have hH : Holds (fun x : {s : ByteArray // s.size ≤ maxLen} => Value.string x.1) w q 0 ds.toArray := fun j hj => by
    have h := hK j (by rw [size_flatK]; omega)
    rw [flat1 (fun x : {s : ByteArray // s.size ≤ maxLen} => Value.string x.1) ds.toArray j hj] at h
    exact h
   have h := stableS_calls (fun x : {s : ByteArray // s.size ≤ maxLen} => Value.string x.1) (fun x y => cmpV g x.1 y.1) 61 #[.pointer (some ⟨gm, 0, none⟩)] q c n ds.toArray w (enters_of Tryz.func61 (by kernel_rfl) rfl)
    (fun mm os dk _ x y => by
     have hb := sortO_but (fun x : {s : ByteArray // s.size ≤ maxLen} => Value.string x.1) w q 0 mm dk os
     exact byLg_calls gm m nn g x.1 y.1 _ x.2 y.2 (by
      have e := hb.2 gm hq3 (fun e => hq1 e.symm)
      unfold World.cell? at hc0 ⊢
      simp only [] at hc0 ⊢
      rw [e]
      exact hc0) (rMap_at hmp (hb.2 m hq4 (fun e => hq2 e.symm)))) ⟨fun x => rfl, hH, (hown.lt q rfl).2⟩ hlen h20
   refine h.mono ?_
   rintro e w' ⟨rfl, hsw⟩
   have hst := ins_stable (lt := ltOf (fun x y : {s : ByteArray // s.size ≤ maxLen} => cmpV g x.1 y.1)) (lt2 := ltOf (fun x y : {s : ByteArray // s.size ≤ maxLen} => cmpG g x.1 y.1)) (R := fun u v => cmpS u.1 v.1 < 0) (fun u v huv => cmpG_after huv) ds.toArray (fun i j hij hj => by
    have h1 := List.pairwise_iff_getElem.1 (List.pairwise_map.1 hu) i j (by have : j < ds.length := (by simpa using hj); omega) (by simpa using hj) hij
    rw [getElem!_pos ds.toArray i (by omega), getElem!_pos ds.toArray j hj]
    exact h1)
   rw [hlen] at hst
   rw [hst] at hsw
   have hO2 : SWO (ltOf fun x y : {s : ByteArray // s.size ≤ maxLen} => cmpG g x.1 y.1) := Ord3.swo ⟨fun x y => (ord3_cmpG g).neg x.1 y.1, fun x y z => (ord3_cmpG g).trans x.1 y.1 z.1⟩
   have hih := insertionSort_holds hO2 ds.toArray 0 n (Nat.zero_le _) (by omega)
   obtain ⟨mm, os, rfl⟩ := hsw
   rw [sortW1]
   obtain ⟨_, ys, h1, h2, h3⟩ := srt_out (enc := fun x : ByteArray => [Value.string x]) (k := 1) (fun _ => rfl) Nat.one_pos (m := mm) (os := os) hl hih.1 hih.2 hS
   rw [flat_strs] at h3
   exact ⟨rfl, ys, h1, h2, h3⟩
end Go.Proofs.YtapgnaimbgjcnaaGreatDoor

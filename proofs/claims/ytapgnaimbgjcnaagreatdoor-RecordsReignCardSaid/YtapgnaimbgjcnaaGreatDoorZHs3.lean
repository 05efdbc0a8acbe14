/-
  The closure of splitref2.HistoryOf, and slices.ContainsFunc of events at it, by contracts. (Printed by gen_hs3.py.)
-/
import Derived.Test.YtapgnaimbgjcnaaGreatDoorZRecP
import Derived.Test.YtapgnaimbgjcnaaGreatDoorZSlotPure
import Derived.Test.YtapgnaimbgjcnaaGreatDoorZFlat
import Derived.Test.YtapgnaimbgjcnaaGreatDoorZRatMake4
import Derived.Test.YtapgnaimbgjcnaaGreatDoorZBid3
import Derived.Deep.DeepCutAuto
import Derived.Shelf.SlGeneric
import Derived.Shelf.SlSortCmp.WholeK
import Derived.Test.YtapgnaimbgjcnaaGreatDoorProg
namespace Go.Proofs.YtapgnaimbgjcnaaGreatDoor
open Go Go.RowKit
attribute [local go_sem ↓ high] neq_bev
theorem less_cmpS (a b : ByteArray) : Op.bytesLess a.toList b.toList = decide (cmpS a b < 0) := by
 rw [cmpS_val]
 cases h : Op.bytesLess a.toList b.toList
 · rw [if_neg (by decide)]
   split <;> rfl
 · rw [if_pos rfl]
   rfl
set_option maxRecDepth 100000 in
set_option maxHeartbeats 4000000 in
theorem hasH0_calls (gb : Nat) (a0 a1 a6 a7 b0 b1 b6 b7 : Int) (a2 a3 a4 a5 b2 b3 b4 b5 : ByteArray) (w : World) (hg : Blk w gb 78 #[.int .i64 b0, .int .i64 b1, .string b2, .string b3, .string b4, .string b5, .int .i64 b6, .int .i64 b7]) :
 Calls Tryz.prog 70 #[.agg #[.int .i64 a0, .int .i64 a1, .string a2, .string a3, .string a4, .string a5, .int .i64 a6, .int .i64 a7], .pointer (some ⟨gb, 0, none⟩)] w (BRet (.bool (wrsH ⟨a0, a1, a2, a3, a4, a5, a6, a7⟩ ⟨b0, b1, b2, b3, b4, b5, b6, b7⟩)) w) := by
 have hb : Below w.heap.size w (w.alloc (.cells #[.int .i64 a0, .int .i64 a1, .string a2, .string a3, .string a4, .string a5, .int .i64 a6, .int .i64 a7] 78)) := (Below.refl _ _).alloc (Nat.le_refl _) _
 have g0 := hg.cell 0
 have g1 := hg.cell 1
 have g2 := hg.cell 2
 have g3 := hg.cell 3
 have g4 := hg.cell 4
 have g5 := hg.cell 5
 have g6 := hg.cell 6
 have g7 := hg.cell 7
 have gl := hg.lt
 clear hg
 have HW : Hid (wrsH ⟨a0, a1, a2, a3, a4, a5, a6, a7⟩ ⟨b0, b1, b2, b3, b4, b5, b6, b7⟩ = ((decide (a7 < b7) && decide (a6 ≤ b6)) || (decide (a7 = b7) && !(sameBev ⟨a0, a1, a2, a3, a4, a5, a6, a7⟩ ⟨b0, b1, b2, b3, b4, b5, b6, b7⟩) && (decide (a6 < b6) || (decide (a6 = b6) && decide (cmpS a2 b2 < 0)))))) := Lib.hid rfl
 obtain ⟨R, hR⟩ : ∃ R, wrsH ⟨a0, a1, a2, a3, a4, a5, a6, a7⟩ ⟨b0, b1, b2, b3, b4, b5, b6, b7⟩ = R := ⟨_, rfl⟩
 rw [hR] at HW ⊢
 obtain ⟨S, hS⟩ : ∃ S, sameBev ⟨a0, a1, a2, a3, a4, a5, a6, a7⟩ ⟨b0, b1, b2, b3, b4, b5, b6, b7⟩ = S := ⟨_, rfl⟩
 rw [hS] at HW
 obtain ⟨Q, hQ⟩ : ∃ Q, decide (cmpS a2 b2 < 0) = Q := ⟨_, rfl⟩
 rw [hQ] at HW
 have hL : Op.bytesLess a2.toList b2.toList = Q := (less_cmpS a2 b2).trans hQ
 clear hQ hR
 by_cases h1 : a7 < b7
 · have h7 : (a7 == b7) = false := by simp; omega
   have h7' : ¬ a7 = b7 := by omega
   have d1 : decide (a7 < b7) = true := decide_eq_true h1
   by_cases h2 : a6 ≤ b6
   · have d2 : decide (a6 ≤ b6) = true := decide_eq_true h2
     have hr : R = true := by rw [HW.out]; simp [h1, h2]
     subst hr
     clear HW
     go_enter Tryz.func70, Tryz.ntmps70
     go_wp2_with fail
     go_ret
     exact ⟨rfl, hb⟩
   · have d2 : decide (a6 ≤ b6) = false := decide_eq_false h2
     have hr : R = false := by rw [HW.out]; simp [h2, h7']
     subst hr
     clear HW
     go_enter Tryz.func70, Tryz.ntmps70
     go_wp2_with fail
     go_ret
     exact ⟨rfl, hb⟩
 · by_cases h3 : a7 = b7
   · subst h3
     clear h1
     cases S
     · by_cases h4 : a6 < b6
       · have d4 : decide (a6 < b6) = true := decide_eq_true h4
         have hr : R = true := by rw [HW.out]; simp [h4]
         subst hr
         clear HW
         go_enter Tryz.func70, Tryz.ntmps70
         go_wp2_with fail
         go_ret
         exact ⟨rfl, hb⟩
       · by_cases h5 : a6 = b6
         · subst h5
           clear h4
           cases Q
           · skip
             have hr : R = false := by rw [HW.out]; simp
             subst hr
             clear HW
             go_enter Tryz.func70, Tryz.ntmps70
             go_wp2_with fail
             go_ret
             exact ⟨rfl, hb⟩
           · skip
             have hr : R = true := by rw [HW.out]; simp
             subst hr
             clear HW
             go_enter Tryz.func70, Tryz.ntmps70
             go_wp2_with fail
             go_ret
             exact ⟨rfl, hb⟩
         · have h6 : (a6 == b6) = false := by simp [h5]
           have d4 : decide (a6 < b6) = false := decide_eq_false h4
           have hr : R = false := by rw [HW.out]; simp [h4, h5]
           subst hr
           clear HW
           go_enter Tryz.func70, Tryz.ntmps70
           go_wp2_with fail
           go_ret
           exact ⟨rfl, hb⟩
     · skip
       have hr : R = false := by rw [HW.out]; simp
       subst hr
       clear HW
       go_enter Tryz.func70, Tryz.ntmps70
       go_wp2_with fail
       go_ret
       exact ⟨rfl, hb⟩
   · have h7 : (a7 == b7) = false := by simp [h3]
     have d1 : decide (a7 < b7) = false := decide_eq_false h1
     have hr : R = false := by rw [HW.out]; simp [h1, h3]
     subst hr
     clear HW
     go_enter Tryz.func70, Tryz.ntmps70
     go_wp2_with fail
     go_ret
     exact ⟨rfl, hb⟩
theorem hasH1_calls (gb : Nat) (r x : Bev) (w : World) (hg : Blk w gb 78 #[.int .i64 r.at_, .int .i64 r.kind, .string r.id, .string r.who, .string r.by_, .string r.cat, .int .i64 r.time, .int .i64 r.date]) :
 Calls Tryz.prog 70 #[.agg #[.int .i64 x.at_, .int .i64 x.kind, .string x.id, .string x.who, .string x.by_, .string x.cat, .int .i64 x.time, .int .i64 x.date], .pointer (some ⟨gb, 0, none⟩)] w (BRet (.bool (wrsH x r)) w) :=
 hasH0_calls gb x.at_ x.kind x.time x.date r.at_ r.kind r.time r.date x.id x.who x.by_ x.cat r.id r.who r.by_ r.cat w hg
set_option maxRecDepth 100000 in
theorem hasH_calls (b gb : Nat) (r : Bev) (A2 : Option Addr) (m c2 : Nat) (hs : List Bev) (w : World) (hg : Blk w gb 78 #[.int .i64 r.at_, .int .i64 r.kind, .string r.id, .string r.who, .string r.by_, .string r.cat, .int .i64 r.time, .int .i64 r.date]) (hr2 : Rd w b 8 (.slice A2 m c2) m (hs.flatMap bevC)) :
 Calls Tryz.prog 69 #[.slice A2 m c2, .func (.func 70) #[] #[.pointer (some ⟨gb, 0, none⟩)]] w (BRet (.bool (hs.any (fun x : Bev => wrsH x r))) w) := by
 obtain ⟨hl, hnc, hcm, hcells⟩ := hr2.cells bevC_len (by omega)
 unfold maxLen at hcm
 have HB : Hid (hs.any (fun x : Bev => wrsH x r) = hs.any (fun x : Bev => wrsH x r)) := rfl
 rw [HB.out]
 obtain ⟨p, hpp⟩ : ∃ p : Bev → Bool, (fun x : Bev => wrsH x r) = p := ⟨_, rfl⟩
 have HCC : Hid (∀ W (x : Bev), Below w.heap.size w W → Calls Tryz.prog 70 #[.agg #[.int .i64 x.at_, .int .i64 x.kind, .string x.id, .string x.who, .string x.by_, .string x.cat, .int .i64 x.time, .int .i64 x.date], .pointer (some ⟨gb, 0, none⟩)] W (BRet (.bool (p x)) W)) := fun W x hW => by
  rw [← hpp]
  exact hasH1_calls gb r x W (hg.below hW)
 have HL := Lib.hid hl
 have HCL := Lib.hid hcells
 rw [hpp]
 have HM := Lib.hid (ixOf_mem p hs)
 clear hcells hl hr2 hg hpp HB
 go_enter Tryz.func69, Tryz.ntmps69
 go_wp2
 go_loopw [8] (fun i wr => ∃ k : Nat, k ≤ m ∧ i = .int .i64 k ∧ Hid (∀ i (_ : i < k) (hi' : i < hs.length), p hs[i] = false) ∧ Below w.heap.size w wr) (fun i _ => m - (intOf i).toNat)
 case atStart => exact ⟨0, Nat.zero_le _, rfl, (fun i hi => absurd hi (by omega)), Below.refl _ _⟩
 case round =>
  obtain ⟨k, hk, rfl, HF, hbr⟩ := hrel
  by_cases hlt : k < m
  · have hkr : k < hs.length := by rw [HL.out]; exact hlt
    obtain ⟨g, o, hA, _, hcs⟩ := HCL.out (by omega)
    subst hA
    have c0 := below_cell hbr (hcs k hkr 0 (by omega))
    have c1 := below_cell hbr (hcs k hkr 1 (by omega))
    have c2 := below_cell hbr (hcs k hkr 2 (by omega))
    have c3 := below_cell hbr (hcs k hkr 3 (by omega))
    have c4 := below_cell hbr (hcs k hkr 4 (by omega))
    have c5 := below_cell hbr (hcs k hkr 5 (by omega))
    have c6 := below_cell hbr (hcs k hkr 6 (by omega))
    have c7 := below_cell hbr (hcs k hkr 7 (by omega))
    obtain ⟨s, hs'⟩ : ∃ s, hs[k] = s := ⟨_, rfl⟩
    rw [hs'] at c0 c1 c2 c3 c4 c5 c6 c7
    replace c0 : wr.cell? ⟨g, o + k * 8, none⟩ = some (.int .i64 s.at_) := c0
    replace c1 : wr.cell? ⟨g, o + k * 8 + 1, none⟩ = some (.int .i64 s.kind) := c1
    replace c2 : wr.cell? ⟨g, o + k * 8 + 2, none⟩ = some (.string s.id) := c2
    replace c3 : wr.cell? ⟨g, o + k * 8 + 3, none⟩ = some (.string s.who) := c3
    replace c4 : wr.cell? ⟨g, o + k * 8 + 4, none⟩ = some (.string s.by_) := c4
    replace c5 : wr.cell? ⟨g, o + k * 8 + 5, none⟩ = some (.string s.cat) := c5
    replace c6 : wr.cell? ⟨g, o + k * 8 + 6, none⟩ = some (.int .i64 s.time) := c6
    replace c7 : wr.cell? ⟨g, o + k * 8 + 7, none⟩ = some (.int .i64 s.date) := c7
    have HK := Lib.hid (HCC.out wr s hbr)
    clear hcs
    cases hp : p s
    · rw [hp] at HK
      have HF2 : Hid (∀ i (_ : i < k + 1) (hi' : i < hs.length), p hs[i] = false) := by
       intro i hi hi'
       by_cases hik : i = k
       · subst hik; rw [hs']; exact hp
       · exact HF.out i (by omega) hi'
      clear hp hs'
      go_wp2_with (go_at_call 70; refine HK.out.mono ?_; rintro e w2 ⟨rfl, hb2⟩)
      have hb3 := below_call hbr hb2 (Nat.le_refl _)
      go_roundw
      case rel => exact ⟨k + 1, by omega, by go_num, HF2, hb3⟩
      case measure => simp [intOf]; omega
    · rw [hp] at HK
      have HR : Hid (ixOf p hs = k) := ixOf_at _ hs k hkr (fun i hi => HF.out i hi (by omega)) (by rw [hs']; exact hp)
      have HA : Hid (hs.any p = true) := by
       have := HM.out
       rw [HR.out] at this
       rw [← this]
       exact Lib.hid (decide_eq_true (by omega))
      clear hp hs'
      go_wp2_with (go_at_call 70; refine HK.out.mono ?_; rintro e w2 ⟨rfl, hb2⟩)
      have hb3 := below_call hbr hb2 (Nat.le_refl _)
      go_ret
      exact ⟨ret_bool HA.out.symm, hb3⟩
  · obtain rfl : k = m := by omega
    have HR : Hid (ixOf p hs = -1) := ixOf_no _ hs (fun i hi => HF.out i (by rw [← HL.out]; exact hi) hi)
    have HA : Hid (hs.any p = false) := by
     have := HM.out
     rw [HR.out] at this
     rw [← this]
     exact Lib.hid rfl
    go_wp2
    go_ret
    exact ⟨ret_bool HA.out.symm, hbr⟩
end Go.Proofs.YtapgnaimbgjcnaaGreatDoor
/-
  DERIVED: THE SHELF's CONTRACTS AT THIS DUMP, IN PLAIN WORDS (tools/lay-plain.mjs out of 'TryzShelf.lean', which tools/lay-shelf.mjs wrote): THE SAME DECLARATIONS UNDER THE SAME NAMES: 'import', 'namespace', 'open', 'def', 'theorem' AND NOTHING ELSE: no command of the shelf's: FOR A HAND-IN. Each laying: the table of numbers ('.._ren') and one theorem, a field a fact of the dump's own or the kernel's comparison; each contract: ONE APPLICATION.
-/
namespace Go.Proofs
open Go.Shelf
def Tryz.sortRg_ren : Go.Shelf.Ren := ⟨fun | 6 => 71 | 15 => 129 | 14 => 128 | 28 => 175 | 29 => 176 | 20 => 167 | 21 => 168 | 22 => 169 | 23 => 170 | 24 => 171 | 25 => 172 | 26 => 173 | 27 => 174 | 46 => 230 | 47 => 231 | 48 => 232 | 49 => 233 | 50 => 234 | 57 => 272 | n => n, fun | 22 => 31 | 24 => 50 | 25 => 116 | 3 => 3 | 39 => 179 | 0 => 0 | 53 => 216 | 55 => 218 | 4 => 4 | 46 => 210 | 45 => 209 | 50 => 46 | 5 => 5 | 9 => 9 | 66 => 265 | 70 => 269 | 76 => 300 | 77 => 301 | n => n, fun | n => n⟩
theorem Tryz.sortRg : Go.Proofs.SlLaysF0.n6 Tryz.prog Tryz.sortRg_ren := {
 mixed := by kernel_rfl
 f6 := ⟨Tryz.f71.name, by decide, Tryz.func71.trans (congrArg some (by kernel_rfl))⟩
 f14 := ⟨Tryz.f128.name, by decide, Tryz.func128.trans (congrArg some (by kernel_rfl))⟩
 f15 := Tryz.func129.trans (congrArg some (by kernel_rfl))
 f20 := ⟨Tryz.f167.name, by decide, Tryz.func167.trans (congrArg some (by kernel_rfl))⟩
 f21 := ⟨Tryz.f168.name, by decide, Tryz.func168.trans (congrArg some (by kernel_rfl))⟩
 f22 := ⟨Tryz.f169.name, by decide, Tryz.func169.trans (congrArg some (by kernel_rfl))⟩
 f23 := ⟨Tryz.f170.name, by decide, Tryz.func170.trans (congrArg some (by kernel_rfl))⟩
 f24 := ⟨Tryz.f171.name, by decide, Tryz.func171.trans (congrArg some (by kernel_rfl))⟩
 f25 := ⟨Tryz.f172.name, by decide, Tryz.func172.trans (congrArg some (by kernel_rfl))⟩
 f26 := ⟨Tryz.f173.name, by decide, Tryz.func173.trans (congrArg some (by kernel_rfl))⟩
 f27 := ⟨Tryz.f174.name, by decide, Tryz.func174.trans (congrArg some (by kernel_rfl))⟩
 f28 := Tryz.func175.trans (congrArg some (by kernel_rfl))
 f29 := Tryz.func176.trans (congrArg some (by kernel_rfl))
 f46 := ⟨Tryz.f230.name, by decide, Tryz.func230.trans (congrArg some (by kernel_rfl))⟩
 f47 := Tryz.func231.trans (congrArg some (by kernel_rfl))
 f48 := Tryz.func232.trans (congrArg some (by kernel_rfl))
 f49 := ⟨Tryz.f233.name, by decide, Tryz.func233.trans (congrArg some (by kernel_rfl))⟩
 f50 := ⟨Tryz.f234.name, by decide, Tryz.func234.trans (congrArg some (by kernel_rfl))⟩
 f57 := ⟨Tryz.f272.name, by decide, Tryz.func272.trans (congrArg some (by kernel_rfl))⟩
 t0 := Tryz.underlying0
 a0 := Tryz.isAgg0
 z0 := Tryz.sizeOf0
 v0 := Tryz.zeroValue0
 t3 := Tryz.underlying3
 a3 := Tryz.isAgg3
 z3 := Tryz.sizeOf3
 v3 := Tryz.zeroValue3
 t4 := Tryz.underlying4
 a4 := Tryz.isAgg4
 z4 := Tryz.sizeOf4
 v4 := Tryz.zeroValue4
 t5 := Tryz.underlying5
 a5 := Tryz.isAgg5
 z5 := Tryz.sizeOf5
 v5 := Tryz.zeroValue5
 t9 := Tryz.underlying9
 a9 := Tryz.isAgg9
 z9 := Tryz.sizeOf9
 v9 := Tryz.zeroValue9
 t22 := Tryz.underlying31
 a22 := Tryz.isAgg31
 z22 := Tryz.sizeOf31
 v22 := Tryz.zeroValue31
 t25 := Tryz.underlying116
 a25 := Tryz.isAgg116
 z25 := Tryz.sizeOf116
 v25 := Tryz.zeroValue116
 t39 := Tryz.underlying179
 a39 := Tryz.isAgg179
 z39 := Tryz.sizeOf179
 v39 := Tryz.zeroValue179
 t45 := Tryz.underlying209
 a45 := Tryz.isAgg209
 z45 := Tryz.sizeOf209
 v45 := Tryz.zeroValue209
 t46 := Tryz.underlying210
 a46 := Tryz.isAgg210
 z46 := Tryz.sizeOf210
 v46 := Tryz.zeroValue210
 t50 := Tryz.underlying46
 a50 := Tryz.isAgg46
 z50 := Tryz.sizeOf46
 v50 := Tryz.zeroValue46
 t53 := Tryz.underlying216
 a53 := Tryz.isAgg216
 z53 := Tryz.sizeOf216
 v53 := Tryz.zeroValue216
 t55 := Tryz.underlying218
 a55 := Tryz.isAgg218
 z55 := Tryz.sizeOf218
 v55 := Tryz.zeroValue218
 t66 := Tryz.underlying265
 a66 := Tryz.isAgg265
 z66 := Tryz.sizeOf265
 v66 := Tryz.zeroValue265
 t70 := Tryz.underlying269
 a70 := Tryz.isAgg269
 z70 := Tryz.sizeOf269
 v70 := Tryz.zeroValue269
 t76 := Tryz.underlying300
 a76 := Tryz.isAgg300
 z76 := Tryz.sizeOf300
 v76 := Tryz.zeroValue300
 t77 := Tryz.underlying301
 a77 := Tryz.isAgg301
 z77 := Tryz.sizeOf301
 v77 := Tryz.zeroValue301 }
end Go.Proofs

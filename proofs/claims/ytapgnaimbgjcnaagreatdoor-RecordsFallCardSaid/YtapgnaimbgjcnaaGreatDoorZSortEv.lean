/-
  DERIVED: THE SHELF's CONTRACTS AT THIS DUMP, IN PLAIN WORDS (tools/lay-plain.mjs out of 'TryzShelf.lean', which tools/lay-shelf.mjs wrote): THE SAME DECLARATIONS UNDER THE SAME NAMES: 'import', 'namespace', 'open', 'def', 'theorem' AND NOTHING ELSE: no command of the shelf's: FOR A HAND-IN. Each laying: the table of numbers ('.._ren') and one theorem, a field a fact of the dump's own or the kernel's comparison; each contract: ONE APPLICATION.
-/
import Derived.Shelf.SlGeneric
import Derived.Shelf.SlSortCmp.InsertionK
import Derived.Test.YtapgnaimbgjcnaaGreatDoorProg
import Derived.Test.YtapgnaimbgjcnaaGreatDoorZSymC
import Derived.Shelf.SlSortCmp.PdqK
import Derived.Deep.DeepCutAuto
import Derived.Test.YtapgnaimbgjcnaaGreatDoorZCmpF
import Derived.Test.YtapgnaimbgjcnaaGreatDoorZEv5W
import Derived.Test.YtapgnaimbgjcnaaGreatDoorZSortMem
import Derived.Test.YtapgnaimbgjcnaaGreatDoorZBid3
import Derived.Test.YtapgnaimbgjcnaaGreatDoorZMapR
import Derived.Deep.RegionHeld3
namespace Go.Proofs
open Go.Shelf
def Tryz.insEv_ren : Go.Shelf.Ren := ⟨fun | 20 => 155 | n => n, fun | 24 => 78 | 22 => 26 | 3 => 3 | 25 => 96 | 4 => 4 | 0 => 0 | n => n, fun | n => n⟩
theorem Tryz.insEv : Go.Proofs.SlLaysF0.n20 Tryz.prog Tryz.insEv_ren := {
 mixed := by kernel_rfl
 f20 := ⟨Tryz.f155.name, by decide, Tryz.func155.trans (congrArg some (by kernel_rfl))⟩
 t0 := Tryz.underlying0
 a0 := Tryz.isAgg0
 z0 := Tryz.sizeOf0
 v0 := Tryz.zeroValue0
 t3 := Tryz.underlying3
 a3 := Tryz.isAgg3
 z3 := Tryz.sizeOf3
 v3 := Tryz.zeroValue3
 t4 := Tryz.underlying4
 a4 := Tryz.isAgg4
 z4 := Tryz.sizeOf4
 v4 := Tryz.zeroValue4
 t22 := Tryz.underlying26
 a22 := Tryz.isAgg26
 z22 := Tryz.sizeOf26
 v22 := Tryz.zeroValue26
 t25 := Tryz.underlying96
 a25 := Tryz.isAgg96
 z25 := Tryz.sizeOf96
 v25 := Tryz.zeroValue96 }
end Go.Proofs
/-
  slices.stableCmpFunc at events, of at most 39 elements, from a world of the sort's to a world of the sort's: what it makes is a function of what was there.
-/
namespace Go.Proofs.YtapgnaimbgjcnaaGreatDoor
open Go Go.RowKit Go.Lib Go.Sort
variable {α : Type} [Inhabited α]
def insR (lt : α → α → Bool) (d : Array α) (a b : Nat) : Array α := Go.Sort.insertionSort lt d a b
theorem insR_size {lt : α → α → Bool} (hO : SWO lt) (d : Array α) (a b : Nat) (hab : a ≤ b) (hb : b ≤ d.size) : (insR lt d a b).size = d.size := (insertionSort_holds hO d a b hab hb).1.1
def stbF (lt : α → α → Bool) (n : Nat) (d : Array α) : Array α := if n < 20 then insR lt d 0 n else if n = 20 then insR lt (insR lt d 0 20) 20 20 else symR lt n 0 20 n (insR lt (insR lt d 0 20) 20 n)
theorem insAt_calls (k : Nat) (aE : ∀ w, (isAgg 78).run Tryz.prog w = .ok true w) (zE : ∀ w, (Go.sizeOf 78).run Tryz.prog w = .ok k w) (enc : α → List Value) (cf : α → α → Int) (g : Nat) (cb : Array Value) (blk cap : Nat) (d0 : Array α) (w0 : World)
 (eg : ∀ args w, (callFunc g args).run Tryz.prog w = .ok (.enter g args) w) (hcmp : CmpLays Tryz.prog g cb enc k cf blk 0 d0.size w0)
 (R : RowK enc k w0 blk 0 d0) (hsz : d0.size < 2305843009213693952) (a b : Nat) (d : Array α) (w : World) (hO : SWO (ltOf cf)) (hab : a ≤ b) (hb : b ≤ d0.size) (hd : d.size = d0.size) (S : SWK enc k w0 blk 0 d w) :
 Calls Tryz.prog 155 #[.slice (some ⟨blk, 0, none⟩) d0.size cap, .int .i64 a, .int .i64 b, .func (.func g) #[] cb] w fun e w' => e = .returned (.tuple #[]) ∧ SWK enc k w0 blk 0 (insR (ltOf cf) d a b) w' := by
 have h := AnyQ.insertionSortCmpFunc_w Tryz.insEv k aE zE enc cf g cb blk 0 cap a b d0 d w0 w eg hcmp R hd.symm S hO hab (by omega) (by omega)
 rw [hd] at h
 exact h
set_option maxHeartbeats 4000000 in
set_option maxRecDepth 1000000 in
theorem stableE_calls (k : Nat) (aE : ∀ w, (isAgg 78).run Tryz.prog w = .ok true w) (zE : ∀ w, (Go.sizeOf 78).run Tryz.prog w = .ok k w) (enc : α → List Value) (cf : α → α → Int) (hO : SWO (ltOf cf)) (g : Nat) (cb : Array Value) (blk cap n : Nat) (d0 : Array α) (w0 : World)
 (eg : ∀ args w, (callFunc g args).run Tryz.prog w = .ok (.enter g args) w) (hcmp : CmpLays Tryz.prog g cb enc k cf blk 0 d0.size w0)
 (R : RowK enc k w0 blk 0 d0) (hn : d0.size = n) (h39 : n ≤ 39) :
 Calls Tryz.prog 107 #[.slice (some ⟨blk, 0, none⟩) n cap, .int .i64 n, .func (.func g) #[] cb] w0 fun e w' => e = .returned (.tuple #[]) ∧ SWK enc k w0 blk 0 (stbF (ltOf cf) n d0) w' := by
 have HI : Aside (∀ (a b : Nat) (d : Array α) (w : World), a ≤ b → b ≤ n → d.size = n → SWK enc k w0 blk 0 d w → Calls Tryz.prog 155 #[.slice (some ⟨blk, 0, none⟩) n cap, .int .i64 a, .int .i64 b, .func (.func g) #[] cb] w fun e w' => e = .returned (.tuple #[]) ∧ SWK enc k w0 blk 0 (insR (ltOf cf) d a b) w') := fun a b d w h1 h2 h3 h4 => by
  have := insAt_calls k aE zE enc cf g cb blk cap d0 w0 eg hcmp R (by omega) a b d w hO h1 (by omega) (by omega) h4
  rw [hn] at this
  exact this
 have HM : Aside (∀ (a m b : Nat) (d : Array α) (w : World), b - a ≤ n → a < m → m < b → b ≤ n → d.size = n → SWK enc k w0 blk 0 d w → Calls Tryz.prog 156 #[.slice (some ⟨blk, 0, none⟩) n cap, .int .i64 a, .int .i64 m, .int .i64 b, .func (.func g) #[] cb] w fun e w' => e = .returned (.tuple #[]) ∧ SWK enc k w0 blk 0 (symR (ltOf cf) n a m b d) w') := fun a m b d w h1 h2 h3 h4 h5 h6 => by
  have := symMerge_calls k aE zE enc cf g cb blk cap d0 w0 eg hcmp R (by omega) n a m b d w h1 h2 h3 (by omega) (by omega) h6
  rw [hn] at this
  exact this
 have S0 : Aside (SWK enc k w0 blk 0 d0 w0) := SWK.start R.hH
 clear hcmp R aE zE eg
 by_cases h20 : n < 20
 · have HF := Lib.hid (show stbF (ltOf cf) n d0 = insR (ltOf cf) d0 0 n by unfold stbF; rw [if_pos h20])
   have h1 : ¬ (20 : Int) ≤ (n : Int) := by omega
   have h2 : ¬ (20 : Int) < (n : Int) := by omega
   have HI1 := Lib.hid (HI.out 0 n d0 w0 (Nat.zero_le _) (Nat.le_refl _) hn S0.out)
   clear HI HM S0 h20
   go_enter Tryz.func107, Tryz.ntmps107
   go_wp2_with fail
   go_loopw [7, 8] (fun s7 s8 wr => s7 = .int .i64 0 ∧ s8 = .int .i64 20 ∧ w0 = wr) (fun _ _ _ => 0)
   case atStart => exact ⟨rfl, rfl, rfl⟩
   case round =>
    obtain ⟨rfl, rfl, rfl⟩ := hrel
    go_wp2_with fail
    refine HI1.out.mono ?_
    rintro e w1 ⟨rfl, hys⟩
    have HY := Lib.hid hys
    clear hys
    go_wp2_with fail
    go_loopw [6] (fun s6 wr => s6 = .int .i64 20 ∧ w1 = wr) (fun _ _ => 0)
    case atStart => exact ⟨rfl, rfl⟩
    case round =>
     obtain ⟨rfl, rfl⟩ := hrel
     go_wp2_with fail
     go_end0
     exact ⟨rfl, by rw [HF.out]; exact HY.out⟩
 · have h1 : (20 : Int) ≤ (n : Int) := by omega
   have h3 : ¬ (40 : Int) ≤ (n : Int) := by omega
   have h4 : ¬ (40 : Int) < (n : Int) := by omega
   obtain ⟨d1, hd1⟩ : ∃ z, insR (ltOf cf) d0 0 20 = z := ⟨_, rfl⟩
   have hz1 : d1.size = n := by rw [← hd1, insR_size hO _ _ _ (by omega) (by omega)]; exact hn
   obtain ⟨d2, hd2⟩ : ∃ z, insR (ltOf cf) d1 20 n = z := ⟨_, rfl⟩
   have hz2 : d2.size = n := by rw [← hd2, insR_size hO _ _ _ (by omega) (by omega)]; exact hz1
   have HI1 := Lib.hid (HI.out 0 20 d0 w0 (Nat.zero_le _) (by omega) hn S0.out)
   have HI2 := Lib.hid (fun W h => HI.out 20 n d1 W (by omega) (Nat.le_refl _) hz1 h)
   rw [hd1] at HI1
   rw [hd2] at HI2
   have HF : Hid (stbF (ltOf cf) n d0 = if n = 20 then d2 else symR (ltOf cf) n 0 20 n d2) := Lib.hid (by
    unfold stbF
    rw [if_neg h20, hd1, hd2]
    by_cases e : n = 20
    · rw [if_pos e, if_pos e, ← hd2, e]
    · rw [if_neg e, if_neg e])
   have HM1 := Lib.hid (fun W (hlt : 20 < n) h => HM.out 0 20 n d2 W (by omega) (by omega) hlt (Nat.le_refl _) hz2 h)
   clear HI HM S0 hd1 hd2 hz1 hz2
   go_enter Tryz.func107, Tryz.ntmps107
   go_wp2_with fail
   go_loopw [7, 8] (fun s7 s8 wr => (s7 = .int .i64 0 ∧ s8 = .int .i64 20 ∧ w0 = wr) ∨ (s7 = .int .i64 20 ∧ s8 = .int .i64 40 ∧ Aside (SWK enc k w0 blk 0 d1 wr))) (fun _ s8 _ => 60 - (intOf s8).toNat)
   case atStart => exact .inl ⟨rfl, rfl, rfl⟩
   case round =>
    rcases hrel with ⟨rfl, rfl, rfl⟩ | ⟨rfl, rfl, S1⟩
    · go_wp2_with fail
      refine HI1.out.mono ?_
      rintro e w1 ⟨rfl, hys⟩
      have HY : Aside (SWK enc k w0 blk 0 d1 w1) := hys
      clear hys
      go_wp2_with fail
      go_roundw
      case rel => exact .inr ⟨rfl, rfl, HY⟩
      case measure => simp [intOf]
    · clear HI1
      go_wp2_with fail
      refine (HI2.out _ S1.out).mono ?_
      rintro e w1 ⟨rfl, hys⟩
      have HY : Aside (SWK enc k w0 blk 0 d2 w1) := hys
      clear hys S1 HI2
      go_wp2_with fail
      by_cases e20 : n = 20
      · have HF2 := Lib.hid (show stbF (ltOf cf) n d0 = d2 by rw [HF.out, if_pos e20])
        have h5 : ¬ (20 : Int) < (n : Int) := by omega
        clear HF e20 HM1
        go_loopw [6] (fun s6 wr => s6 = .int .i64 20 ∧ w1 = wr) (fun _ _ => 0)
        case atStart => exact ⟨rfl, rfl⟩
        case round =>
         obtain ⟨rfl, rfl⟩ := hrel
         go_wp2_with fail
         go_end0
         exact ⟨rfl, by rw [HF2.out]; exact HY.out⟩
      · have HF2 := Lib.hid (show stbF (ltOf cf) n d0 = symR (ltOf cf) n 0 20 n d2 by rw [HF.out, if_neg e20])
        have h5 : (20 : Int) < (n : Int) := by omega
        have HM2 := Lib.hid (HM1.out w1 (by omega) HY.out)
        clear HF e20 HM1 HY
        go_loopw [6] (fun s6 wr => (s6 = .int .i64 20 ∧ w1 = wr) ∨ (s6 = .int .i64 40 ∧ Aside (SWK enc k w0 blk 0 (symR (ltOf cf) n 0 20 n d2) wr))) (fun s6 _ => 60 - (intOf s6).toNat)
        case atStart => exact .inl ⟨rfl, rfl⟩
        case round =>
         rcases hrel with ⟨rfl, rfl⟩ | ⟨rfl, S3⟩
         · go_wp2_with fail
           go_loopw [7, 8] (fun s7 s8 wr => s7 = .int .i64 0 ∧ s8 = .int .i64 40 ∧ w1 = wr) (fun _ _ _ => 0)
           case atStart => exact ⟨rfl, rfl, rfl⟩
           case round =>
            obtain ⟨rfl, rfl, rfl⟩ := hrel
            go_wp2_with fail
            refine HM2.out.mono ?_
            rintro e w2 ⟨rfl, hys⟩
            have HY : Aside (SWK enc k w0 blk 0 (symR (ltOf cf) n 0 20 n d2) w2) := hys
            clear hys
            go_wp2_with fail
            go_roundw
            case rel => exact .inr ⟨rfl, HY⟩
            case measure => simp [intOf]
         · go_wp2_with fail
           go_end0
           exact ⟨rfl, by rw [HF2.out]; exact S3.out⟩
end Go.Proofs.YtapgnaimbgjcnaaGreatDoor
/-
  slices.SortStableFunc and CompactFunc at events with the stream's own closures, by contracts over a row.
-/
namespace Go.Proofs.YtapgnaimbgjcnaaGreatDoor
open Go Go.RowKit Go.Sort
instance : Inhabited Bev := ⟨⟨0, 0, noBev, noBev, noBev, noBev, 0, 0⟩⟩
theorem bevC_one : ∀ x : Bev, ∀ v ∈ bevC x, v.oneCell' = true := by
 intro x v hv
 simp only [bevC, List.mem_cons, List.not_mem_nil, or_false] at hv
 rcases hv with rfl | rfl | rfl | rfl | rfl | rfl | rfl | rfl <;> rfl
theorem run_clear_ev (w : World) (b o n c : Nat) (hn : 0 < n) (hc : ∀ j, j < n * 8 → (w.cell? ⟨b, o + j, none⟩).isSome = true) (hf : ∀ j, j < n * 8 → w.frozen? ⟨b, o + j, none⟩ = false) :
 ∃ vs : List Value, (∀ ty, (Builtin.clear_ #[26] ty #[.slice (some ⟨b, o, none⟩) n c]).run Tryz.prog w = .ok (.tuple #[]) (w.setCells b o vs)) ∧ vs.length = n * 8 := by
 have hv : ∀ w, (zeroValue 78).run Tryz.prog w = .ok (.agg #[.int .i64 0, .int .i64 0, .string ⟨#[]⟩, .string ⟨#[]⟩, .string ⟨#[]⟩, .string ⟨#[]⟩, .int .i64 0, .int .i64 0]) w := fun w => by kernel_rfl
 obtain ⟨vs, hvs⟩ : ∃ vs, (Builtin.zeroCells #[.int .i64 0, .int .i64 0, .string ⟨#[]⟩, .string ⟨#[]⟩, .string ⟨#[]⟩, .string ⟨#[]⟩, .int .i64 0, .int .i64 0] n).toList = vs := ⟨_, rfl⟩
 have hlen : vs.length = n * 8 := by rw [← hvs]; simp [Builtin.zeroCells]
 have h1 : ∀ v ∈ vs, v.oneCell' = true := by
  intro v hv
  rw [← hvs] at hv
  simp [Builtin.zeroCells] at hv
  obtain ⟨i, _, rfl⟩ := hv
  rcases (show i % 8 = 0 ∨ i % 8 = 1 ∨ i % 8 = 2 ∨ i % 8 = 3 ∨ i % 8 = 4 ∨ i % 8 = 5 ∨ i % 8 = 6 ∨ i % 8 = 7 by omega) with h | h | h | h | h | h | h | h <;> simp [h] <;> rfl
 have hst := run_storeCells_cells (P := Tryz.prog) b o vs 0 w (by simpa [hlen] using hc) (by simpa [hlen] using hf) h1
 simp only [Nat.add_zero] at hst
 refine ⟨vs, fun ty => ?_, hlen⟩
 obtain ⟨m, rfl⟩ : ∃ m, n = m + 1 := ⟨n - 1, by omega⟩
 simp [Builtin.clear_, run_underlying Tryz.underlying26, hv, Value.cells, hvs, hst, Result.andThen]
set_option maxRecDepth 100000 in
theorem evEq_calls (x y : Bev) (w : World) : Calls Tryz.prog 55 #[.agg (bevC x).toArray, .agg (bevC y).toArray] w (fun e w' => e = .returned (.bool (decide (ordBev x y = 0))) ∧ Gw w w') := by
 obtain ⟨a1, k1, i1, w1, b1, c1, t1, d1⟩ := x
 obtain ⟨a2, k2, i2, w2, b2, c2, t2, d2⟩ := y
 have HG : Hid (Gw w ((w.alloc (.cells #[.int .i64 a1, .int .i64 k1, .string i1, .string w1, .string b1, .string c1, .int .i64 t1, .int .i64 d1] 78)).alloc (.cells #[.int .i64 a2, .int .i64 k2, .string i2, .string w2, .string b2, .string c2, .int .i64 t2, .int .i64 d2] 78))) := Lib.hid (((Gw.refl w).alloc _).alloc _)
 have HO := Lib.hid (eventOrderG_calls a1 k1 t1 d1 a2 k2 t2 d2 i1 w1 b1 c1 i2 w2 b2 c2 ((w.alloc (.cells #[.int .i64 a1, .int .i64 k1, .string i1, .string w1, .string b1, .string c1, .int .i64 t1, .int .i64 d1] 78)).alloc (.cells #[.int .i64 a2, .int .i64 k2, .string i2, .string w2, .string b2, .string c2, .int .i64 t2, .int .i64 d2] 78)))
 obtain ⟨O, hO⟩ : ∃ O, ordBev ⟨a1, k1, i1, w1, b1, c1, t1, d1⟩ ⟨a2, k2, i2, w2, b2, c2, t2, d2⟩ = O := ⟨_, rfl⟩
 rw [hO] at HO ⊢
 clear hO
 show Calls Tryz.prog 55 #[.agg #[.int .i64 a1, .int .i64 k1, .string i1, .string w1, .string b1, .string c1, .int .i64 t1, .int .i64 d1], .agg #[.int .i64 a2, .int .i64 k2, .string i2, .string w2, .string b2, .string c2, .int .i64 t2, .int .i64 d2]] w _
 go_enter Tryz.func55, Tryz.ntmps55
 go_wp2_with fail
 refine HO.out.mono ?_
 rintro e w5 ⟨rfl, hg⟩
 have HG2 := Lib.hid (HG.out.trans hg)
 clear hg
 go_wp2_with fail
 go_ret
 exact ⟨rfl, HG2.out⟩
def sev (xs : List Bev) : List Bev := (stbF (ltOf ordBev) xs.length xs.toArray).toList
theorem stbF_size {lt : Bev → Bev → Bool} (hO : SWO lt) {n : Nat} {d : Array Bev} (hd : d.size = n) : (stbF lt n d).size = n := by
 unfold stbF
 split
 · rw [insR_size hO _ _ _ (Nat.zero_le _) (by omega)]; exact hd
 · have h1 : (insR lt d 0 20).size = n := by rw [insR_size hO _ _ _ (by omega) (by omega)]; exact hd
   split
   · rw [insR_size hO _ _ _ (by omega) (by omega)]; exact h1
   · rw [symR_size, insR_size hO _ _ _ (by omega) (by omega)]; exact h1
theorem sev_len (xs : List Bev) : (sev xs).length = xs.length := by
 unfold sev
 rw [Array.length_toList]
 exact stbF_size swo_bev (by simp)
def SoR (w : World) (base : Nat) (v : Value) (n : Nat) (xs : List Bev) (e : Ending) (w' : World) : Prop :=
 e = .returned (.tuple #[]) ∧ w'.ownsRow base 78 8 v n (xs.flatMap bevC) ∧ w.grownBy w' v.ownBlock
theorem insEv_none (w : World) (A : Option Addr) (c : Nat) :
 Calls Tryz.prog 155 #[.slice A 0 c, .int .i64 0, .int .i64 0, .func (.func 53) #[] #[]] w (fun e w' => e = .returned (.tuple #[]) ∧ w' = w) :=
 AnyF.insertionSortCmpFunc_none Tryz.insEv A c _ w
set_option maxRecDepth 100000 in
theorem stableE_none (w : World) (A : Option Addr) (c : Nat) :
 Calls Tryz.prog 107 #[.slice A 0 c, .int .i64 0, .func (.func 53) #[] #[]] w (fun e w' => e = .returned (.tuple #[]) ∧ w = w') := by
 have HI := Lib.hid (insEv_none w A c)
 go_enter Tryz.func107, Tryz.ntmps107
 go_wp2_with fail
 go_loopw [7, 8] (fun s7 s8 wr => s7 = .int .i64 0 ∧ s8 = .int .i64 20 ∧ wr = w) (fun _ _ _ => 0)
 case atStart => exact ⟨rfl, rfl, rfl⟩
 case round =>
  obtain ⟨rfl, rfl, rfl⟩ := hrel
  go_wp2_with fail
  refine HI.out.mono ?_
  rintro e w1 ⟨rfl, rfl⟩
  go_wp2_with fail
  go_loopw [6] (fun s6 wr => s6 = .int .i64 20 ∧ wr = w1) (fun _ _ => 0)
  case atStart => exact ⟨rfl, rfl⟩
  case round =>
   obtain ⟨rfl, rfl⟩ := hrel
   go_wp2_with fail
   go_end0
   exact ⟨rfl, rfl⟩
set_option maxRecDepth 100000 in
theorem sortEv_calls (base : Nat) (w : World) (A : Option Addr) (n c : Nat) (xs : List Bev) (hl : xs.length = n) (hn : n ≤ 39) (ho : w.ownsRow base 78 8 (.slice A n c) n (xs.flatMap bevC)) :
 Calls Tryz.prog 52 #[.slice A n c, .func (.func 53) #[] #[]] w (SoR w base (.slice A n c) n (sev xs)) := by
 by_cases h0 : n = 0
 · subst h0
   have hx : xs = [] := List.length_eq_zero_iff.1 hl
   subst hx
   have hs : sev [] = [] := List.length_eq_zero_iff.1 (sev_len [])
   have HF : Hid (SoR w base (.slice A 0 c) 0 (sev []) (.returned (.tuple #[])) w) := Lib.hid ⟨rfl, by rw [hs]; exact ho, ⟨rfl, rfl, rfl, Nat.le_refl _, fun _ _ _ => rfl⟩⟩
   have HI := Lib.hid (stableE_none w A c)
   clear ho hl hs
   go_enter Tryz.func52, Tryz.ntmps52
   go_wp2_with fail
   refine HI.out.mono ?_
   rintro e w1 ⟨rfl, rfl⟩
   go_wp2_with fail
   go_end0
   exact HF.out
 · obtain ⟨g, cap, hv, _⟩ := ho.form (by omega)
   injection hv with hA _ hc
   subst hA hc
   have hH : HoldsK bevC 8 w g 0 xs.toArray := holdsK_own _ 8 bevC_len (by decide) xs.toArray (by simpa using ho)
   have hz : xs.toArray.size = n := by simpa using hl
   have HI := Lib.hid (stableE_calls 8 Tryz.isAgg78 Tryz.sizeOf78 bevC ordBev swo_bev 53 #[] g c n xs.toArray w (enters_of Tryz.func53 (by kernel_rfl) rfl)
    (fun m os dk _ x y => eventOrderG_calls x.at_ x.kind x.time x.date y.at_ y.kind y.time y.date x.id x.who x.by_ x.cat y.id y.who y.by_ y.cat _) ⟨bevC_len, bevC_one, hH, (ho.lt g rfl).2⟩ hz hn)
   have HF : Hid (∀ w', SWK bevC 8 w g 0 (stbF (ltOf ordBev) n xs.toArray) w' → SoR w base (.slice (some ⟨g, 0, none⟩) n c) n (sev xs) (.returned (.tuple #[])) w') := Lib.hid (by
    rintro w' ⟨m, os, rfl⟩
    have hs : (stbF (ltOf ordBev) n xs.toArray).size = n := stbF_size swo_bev hz
    refine ⟨rfl, ?_, sortW_grown bevC 8 w g m _ os⟩
    unfold sev
    rw [hl]
    exact sortW_own bevC 8 bevC_len (by decide) ho m _ hs os)
   clear ho hl hH hz
   go_enter Tryz.func52, Tryz.ntmps52
   go_wp2_with fail
   refine HI.out.mono ?_
   rintro e w1 ⟨rfl, hys⟩
   have HY := Lib.hid (HF.out _ hys)
   clear hys
   go_wp2_with fail
   go_end0
   exact HY.out
theorem compactEv_calls (base : Nat) (w : World) (A : Option Addr) (n c : Nat) (xs : List Bev) (hn : n ≤ 1000) (hl : xs.length = n) (ho : w.ownsRow base 78 8 (.slice A n c) n (xs.flatMap bevC)) :
 Calls Tryz.prog 54 #[.slice A n c, .func (.func 55) #[] #[]] w (CpS w base 8 (.slice A n c) xs) :=
 compactG_calls 8 bevC_len (by decide) Tryz.isAgg78 Tryz.sizeOf78 run_clear_ev bevC_one 55 (enters_of Tryz.func55 (by kernel_rfl) rfl) evEq_calls base w A n c xs hn hl ho
end Go.Proofs.YtapgnaimbgjcnaaGreatDoor
/-
  The program's order of events, worlds told as the sorts ask, and slices.SortStableFunc at it. (Printed by gen_bym.py.)
-/
namespace Go.Proofs.YtapgnaimbgjcnaaGreatDoor
open Go Go.RowKit Go.Sort
theorem gw_drewN (w : World) (q : Nat) : Gw w (w.drewN q) := ⟨q, #[], (Go.Sort.grow_empty _).symm⟩
end Go.Proofs.YtapgnaimbgjcnaaGreatDoor
/-
  board.history$1 by its contract, and the sort of runs at it. (Printed by gen_hs1.py.)
-/
namespace Go.Proofs.YtapgnaimbgjcnaaGreatDoor
open Go Go.RowKit Go.Sort
theorem cmpH_or (x y : Bev) : firstE [cmpI x.date y.date, cmpT x y] = cmpH x y := by
 unfold cmpH
 by_cases h : cmpI x.date y.date = 0
 · rw [if_pos h, h]
   by_cases h2 : cmpT x y = 0
   · rw [h2]; rfl
   · simp [firstE, h2]
 · rw [if_neg h]
   simp [firstE, h]
set_option maxRecDepth 100000 in
set_option maxHeartbeats 4000000 in
theorem byHis_calls (g1 g2 : Nat) (x y : Bev) (w : World) (hc : ∀ V, Below w.heap.size w V → V.cell? ⟨g1, 2, none⟩ = some (.string x.id) ∧ V.cell? ⟨g1, 6, none⟩ = some (.int .i64 x.time) ∧ V.cell? ⟨g1, 7, none⟩ = some (.int .i64 x.date) ∧ V.cell? ⟨g2, 2, none⟩ = some (.string y.id) ∧ V.cell? ⟨g2, 6, none⟩ = some (.int .i64 y.time) ∧ V.cell? ⟨g2, 7, none⟩ = some (.int .i64 y.date)) :
 Calls Tryz.prog 114 #[.pointer (some ⟨g1, 0, none⟩), .pointer (some ⟨g2, 0, none⟩)] w (GrwT (.int .i64 (cmpH x y)) w) := by
 have HC := Lib.hid hc
 have HE := cmpH_or x y
 have HBT : Hid (∀ W, Below w.heap.size w W → Calls Tryz.prog 116 #[.pointer (some ⟨g1, 0, none⟩), .pointer (some ⟨g2, 0, none⟩)] W (GrwT (.int .i64 (cmpT x y)) W)) := Lib.hid (fun W hW => better_calls g1 g2 x y W (fun V hV => hc V (below_call hW hV (Nat.le_refl _))))
 obtain ⟨O, hO⟩ : ∃ z, cmpH x y = z := ⟨_, rfl⟩
 rw [hO] at HE ⊢
 obtain ⟨a1, k1, i1, w1, b1, c1, t1, d1⟩ := x
 obtain ⟨a2, k2, i2, w2, b2, c2, t2, d2⟩ := y
 simp only at HE HC
 have H1 := Lib.hid (fun W => cmpInt_calls d1 d2 W)
 obtain ⟨x1, hx1⟩ : ∃ z, cmpI d1 d2 = z := ⟨_, rfl⟩
 obtain ⟨x2, hx2⟩ : ∃ z, cmpT ⟨a1, k1, i1, w1, b1, c1, t1, d1⟩ ⟨a2, k2, i2, w2, b2, c2, t2, d2⟩ = z := ⟨_, rfl⟩
 rw [hx1] at H1
 rw [hx2] at HBT
 rw [hx1, hx2] at HE
 have S0 : Below w.heap.size w w := Below.refl _ _
 have S1 : Below w.heap.size w w.drew := below_drewN S0 1
 have HO2 : Hid (∀ W5, Gw w W5 → Calls Tryz.prog 115 #[.slice (some ⟨W5.heap.size, 0, none⟩) 2 2] (W5.alloc (.cells #[.int .i64 x1, .int .i64 x2] 3)) (fun e w' => e = .returned (.int .i64 O) ∧ Gw w w')) := Lib.hid (fun W5 hW5 => by
  have hr := blkRd (b := W5.heap.size + 1) 1 2 (show Blk (W5.alloc (.cells #[.int .i64 x1, .int .i64 x2] 3)) W5.heap.size 3 #[.int .i64 x1, .int .i64 x2] from Blk.new _ _ _) (by omega) (by unfold maxLen; omega) rfl
  have h := orN_calls (W5.heap.size + 1) _ 2 2 [x1, x2] _ hr
  rw [HE] at h
  refine h.mono ?_
  rintro e w' ⟨he, nq, rfl⟩
  exact ⟨he, (hW5.alloc _).trans (gw_drewN _ nq)⟩)
 clear hO hx1 hx2 HE hc
 go_enter Tryz.func114, Tryz.ntmps114
 go_upto_region 1 with (fail)
 obtain ⟨k0, k1', k2', k3, k4, k5⟩ := HC.out _ S0
 go_region_held3 (fun V => V.cell? ⟨g1, 7, none⟩ = some (.int .i64 d1) ∧ V.cell? ⟨g2, 7, none⟩ = some (.int .i64 d2))
  (first | with_reducible exact ⟨(HC.out _ S1).2.2.1, (HC.out _ S1).2.2.2.2.2⟩ | with_reducible exact ⟨(HC.out _ S5).2.2.1, (HC.out _ S5).2.2.2.2.2⟩ | with_reducible exact ⟨(HC.out _ S6).2.2.1, (HC.out _ S6).2.2.2.2.2⟩ | with_reducible exact ⟨(HC.out _ S9).2.2.1, (HC.out _ S9).2.2.2.2.2⟩)
  (first
   | (go_at_call 62; ((with_reducible refine (H1.out _).mono ?_); rintro e w4 ⟨rfl, rfl⟩))
   | (go_at_call 116; ((with_reducible refine (HBT.out _ S1).mono ?_); rintro e w5 ⟨rfl, hg5⟩; have G5 : Gw w w5 := (gw_drewN w 1).trans hg5; have S5 := below_gw G5; have S6 := S5.alloc S5.size (.cells #[.int .i64 x1, .int .i64 x2] 3)))
   | (go_at_call 115; ((with_reducible refine (HO2.out _ G5).mono ?_); rintro e w9 ⟨rfl, G9⟩; have S9 := below_gw G9)))
 all_goals
  go_wp2_with fail
  go_ret
  exact ⟨rfl, G9⟩
theorem ord3_ptvH : Ord3 (fun x y : Ptv => cmpH x.2 y.2) := ⟨fun x y => ord3_cmpH.neg x.2 y.2, fun x y z => ord3_cmpH.trans x.2 y.2 z.2⟩
theorem sortRunH_calls (w0 w : World) (g n c : Nat) (xs : List Ptv) (l : List Rsc) (hn : n ≤ 100000) (hx : ∀ x ∈ xs, RunAt w x ∧ x.1 < w.heap.size ∧ x.1 ≠ g) (h0 : 0 < xs.length) (hS : Sq w0 w (rOwn w0.heap.size 166 1 (.slice (some ⟨g, 0, none⟩) n c) n (xs.flatMap (fun x => [ptvV x])) :: l)) :
 Calls Tryz.prog 113 #[.slice (some ⟨g, 0, none⟩) n c, .func (.func 114) #[] #[]] w (SrtT w0 166 1 (fun x => [ptvV x]) g n c xs (fun x y => cmpH x.2 y.2) l) := by
 have hne : Nonempty {x : Ptv // RunAt w x ∧ x.1 < w.heap.size ∧ x.1 ≠ g} := by
  cases xs with
  | nil => cases h0
  | cons a r => exact ⟨⟨a, hx a (List.mem_cons_self ..)⟩⟩
 have hin : Inhabited {x : Ptv // RunAt w x ∧ x.1 < w.heap.size ∧ x.1 ≠ g} := Classical.inhabited_of_nonempty hne
 exact srt1_calls (P := fun x : Ptv => RunAt w x ∧ x.1 < w.heap.size ∧ x.1 ≠ g) (enc := ptvV) Tryz.sortRun (fun _ => rfl) (fun x y => cmpH x.2 y.2) ord3_ptvH 114 #[] (enters_of Tryz.func114 (by kernel_rfl) rfl) w0 w g n c xs l hx hn
  (fun x y W hx hy hW => byHis_calls x.1 y.1 x.2 y.2 W (fun V hV => by
   have e1 := (hV.block x.1 (by have := hW.1; have := hx.2.1; omega)).trans (hW.2 x.1 hx.2.1 hx.2.2)
   have e2 := (hV.block y.1 (by have := hW.1; have := hy.2.1; omega)).trans (hW.2 y.1 hy.2.1 hy.2.2)
   obtain ⟨a1, a2, a3⟩ := hx.1 V e1
   obtain ⟨b1, b2, b3⟩ := hy.1 V e2
   exact ⟨a1, a2, a3, b1, b2, b3⟩)) hS
theorem sortRunH_none (w : World) (A : Option Addr) (c : Nat) :
 Calls Tryz.prog 113 #[.slice A 0 c, .func (.func 114) #[] #[]] w fun e w' => e = .returned (.tuple #[]) ∧ w' = w :=
 AnyF.slices_SortFunc_none Tryz.sortRun0 A c _ w
end Go.Proofs.YtapgnaimbgjcnaaGreatDoor

/-
  DERIVED: THE SHELF's CONTRACTS AT THIS DUMP, IN PLAIN WORDS (tools/lay-plain.mjs out of 'TryzShelf.lean', which tools/lay-shelf.mjs wrote): THE SAME DECLARATIONS UNDER THE SAME NAMES: 'import', 'namespace', 'open', 'def', 'theorem' AND NOTHING ELSE: no command of the shelf's: FOR A HAND-IN. Each laying: the table of numbers ('.._ren') and one theorem, a field a fact of the dump's own or the kernel's comparison; each contract: ONE APPLICATION.
-/
import Derived.Shelf.SlGeneric
import Derived.Shelf.SlSortCmp.InsertionK
import Derived.Test.YtapgnaimbgjcnaaGreatDoorProg
import Derived.Test.YtapgnaimbgjcnaaGreatDoorZSymC
import Derived.Shelf.SlSortCmp.PdqK
import Derived.Deep.DeepCutAuto
import Derived.Test.YtapgnaimbgjcnaaGreatDoorZCmpF
import Derived.Test.YtapgnaimbgjcnaaGreatDoorZEv5W
import Derived.Test.YtapgnaimbgjcnaaGreatDoorZSortMem
namespace Go.Proofs
open Go.Shelf
def Tryz.insEv_ren : Go.Shelf.Ren := ⟨fun | 20 => 155 | n => n, fun | 24 => 78 | 22 => 26 | 3 => 3 | 25 => 96 | 4 => 4 | 0 => 0 | n => n, fun | n => n⟩
theorem Tryz.insEv : Go.Proofs.SlLaysF0.n20 Tryz.prog Tryz.insEv_ren := {
 mixed := by kernel_rfl
 f20 := ⟨Tryz.f155.name, by decide, Tryz.func155.trans (congrArg some (by kernel_rfl))⟩
 t0 := Tryz.underlying0
 a0 := Tryz.isAgg0
 z0 := Tryz.sizeOf0
 v0 := Tryz.zeroValue0
 t3 := Tryz.underlying3
 a3 := Tryz.isAgg3
 z3 := Tryz.sizeOf3
 v3 := Tryz.zeroValue3
 t4 := Tryz.underlying4
 a4 := Tryz.isAgg4
 z4 := Tryz.sizeOf4
 v4 := Tryz.zeroValue4
 t22 := Tryz.underlying26
 a22 := Tryz.isAgg26
 z22 := Tryz.sizeOf26
 v22 := Tryz.zeroValue26
 t25 := Tryz.underlying96
 a25 := Tryz.isAgg96
 z25 := Tryz.sizeOf96
 v25 := Tryz.zeroValue96 }
end Go.Proofs
/-
  slices.stableCmpFunc at events, of at most 39 elements, from a world of the sort's to a world of the sort's: what it makes is a function of what was there.
-/
namespace Go.Proofs.YtapgnaimbgjcnaaGreatDoor
open Go Go.RowKit Go.Lib Go.Sort
variable {α : Type} [Inhabited α]
def insR (lt : α → α → Bool) (d : Array α) (a b : Nat) : Array α := Go.Sort.insertionSort lt d a b
theorem insR_size {lt : α → α → Bool} (hO : SWO lt) (d : Array α) (a b : Nat) (hab : a ≤ b) (hb : b ≤ d.size) : (insR lt d a b).size = d.size := (insertionSort_holds hO d a b hab hb).1.1
def stbF (lt : α → α → Bool) (n : Nat) (d : Array α) : Array α := if n < 20 then insR lt d 0 n else if n = 20 then insR lt (insR lt d 0 20) 20 20 else symR lt n 0 20 n (insR lt (insR lt d 0 20) 20 n)
theorem insAt_calls (k : Nat) (aE : ∀ w, (isAgg 78).run Tryz.prog w = .ok true w) (zE : ∀ w, (Go.sizeOf 78).run Tryz.prog w = .ok k w) (enc : α → List Value) (cf : α → α → Int) (g : Nat) (cb : Array Value) (blk cap : Nat) (d0 : Array α) (w0 : World)
 (eg : ∀ args w, (callFunc g args).run Tryz.prog w = .ok (.enter g args) w) (hcmp : CmpLays Tryz.prog g cb enc k cf blk 0 d0.size w0)
 (R : RowK enc k w0 blk 0 d0) (hsz : d0.size < 2305843009213693952) (a b : Nat) (d : Array α) (w : World) (hO : SWO (ltOf cf)) (hab : a ≤ b) (hb : b ≤ d0.size) (hd : d.size = d0.size) (S : SWK enc k w0 blk 0 d w) :
 Calls Tryz.prog 155 #[.slice (some ⟨blk, 0, none⟩) d0.size cap, .int .i64 a, .int .i64 b, .func (.func g) #[] cb] w fun e w' => e = .returned (.tuple #[]) ∧ SWK enc k w0 blk 0 (insR (ltOf cf) d a b) w' := by
 have h := AnyQ.insertionSortCmpFunc_w Tryz.insEv k aE zE enc cf g cb blk 0 cap a b d0 d w0 w eg hcmp R hd.symm S hO hab (by omega) (by omega)
 rw [hd] at h
 exact h
set_option maxHeartbeats 4000000 in
set_option maxRecDepth 1000000 in
theorem stableE_calls (k : Nat) (aE : ∀ w, (isAgg 78).run Tryz.prog w = .ok true w) (zE : ∀ w, (Go.sizeOf 78).run Tryz.prog w = .ok k w) (enc : α → List Value) (cf : α → α → Int) (hO : SWO (ltOf cf)) (g : Nat) (cb : Array Value) (blk cap n : Nat) (d0 : Array α) (w0 : World)
 (eg : ∀ args w, (callFunc g args).run Tryz.prog w = .ok (.enter g args) w) (hcmp : CmpLays Tryz.prog g cb enc k cf blk 0 d0.size w0)
 (R : RowK enc k w0 blk 0 d0) (hn : d0.size = n) (h39 : n ≤ 39) :
 Calls Tryz.prog 107 #[.slice (some ⟨blk, 0, none⟩) n cap, .int .i64 n, .func (.func g) #[] cb] w0 fun e w' => e = .returned (.tuple #[]) ∧ SWK enc k w0 blk 0 (stbF (ltOf cf) n d0) w' := by
 have HI : Aside (∀ (a b : Nat) (d : Array α) (w : World), a ≤ b → b ≤ n → d.size = n → SWK enc k w0 blk 0 d w → Calls Tryz.prog 155 #[.slice (some ⟨blk, 0, none⟩) n cap, .int .i64 a, .int .i64 b, .func (.func g) #[] cb] w fun e w' => e = .returned (.tuple #[]) ∧ SWK enc k w0 blk 0 (insR (ltOf cf) d a b) w') := fun a b d w h1 h2 h3 h4 => by
  have := insAt_calls k aE zE enc cf g cb blk cap d0 w0 eg hcmp R (by omega) a b d w hO h1 (by omega) (by omega) h4
  rw [hn] at this
  exact this
 have HM : Aside (∀ (a m b : Nat) (d : Array α) (w : World), b - a ≤ n → a < m → m < b → b ≤ n → d.size = n → SWK enc k w0 blk 0 d w → Calls Tryz.prog 156 #[.slice (some ⟨blk, 0, none⟩) n cap, .int .i64 a, .int .i64 m, .int .i64 b, .func (.func g) #[] cb] w fun e w' => e = .returned (.tuple #[]) ∧ SWK enc k w0 blk 0 (symR (ltOf cf) n a m b d) w') := fun a m b d w h1 h2 h3 h4 h5 h6 => by
  have := symMerge_calls k aE zE enc cf g cb blk cap d0 w0 eg hcmp R (by omega) n a m b d w h1 h2 h3 (by omega) (by omega) h6
  rw [hn] at this
  exact this
 have S0 : Aside (SWK enc k w0 blk 0 d0 w0) := SWK.start R.hH
 clear hcmp R aE zE eg
 by_cases h20 : n < 20
 · have HF := Lib.hid (show stbF (ltOf cf) n d0 = insR (ltOf cf) d0 0 n by unfold stbF; rw [if_pos h20])
   have h1 : ¬ (20 : Int) ≤ (n : Int) := by omega
   have h2 : ¬ (20 : Int) < (n : Int) := by omega
   have HI1 := Lib.hid (HI.out 0 n d0 w0 (Nat.zero_le _) (Nat.le_refl _) hn S0.out)
   clear HI HM S0 h20
   go_enter Tryz.func107, Tryz.ntmps107
   go_wp2_with fail
   go_loopw [7, 8] (fun s7 s8 wr => s7 = .int .i64 0 ∧ s8 = .int .i64 20 ∧ w0 = wr) (fun _ _ _ => 0)
   case atStart => exact ⟨rfl, rfl, rfl⟩
   case round =>
    obtain ⟨rfl, rfl, rfl⟩ := hrel
    go_wp2_with fail
    refine HI1.out.mono ?_
    rintro e w1 ⟨rfl, hys⟩
    have HY := Lib.hid hys
    clear hys
    go_wp2_with fail
    go_loopw [6] (fun s6 wr => s6 = .int .i64 20 ∧ w1 = wr) (fun _ _ => 0)
    case atStart => exact ⟨rfl, rfl⟩
    case round =>
     obtain ⟨rfl, rfl⟩ := hrel
     go_wp2_with fail
     go_end0
     exact ⟨rfl, by rw [HF.out]; exact HY.out⟩
 · have h1 : (20 : Int) ≤ (n : Int) := by omega
   have h3 : ¬ (40 : Int) ≤ (n : Int) := by omega
   have h4 : ¬ (40 : Int) < (n : Int) := by omega
   obtain ⟨d1, hd1⟩ : ∃ z, insR (ltOf cf) d0 0 20 = z := ⟨_, rfl⟩
   have hz1 : d1.size = n := by rw [← hd1, insR_size hO _ _ _ (by omega) (by omega)]; exact hn
   obtain ⟨d2, hd2⟩ : ∃ z, insR (ltOf cf) d1 20 n = z := ⟨_, rfl⟩
   have hz2 : d2.size = n := by rw [← hd2, insR_size hO _ _ _ (by omega) (by omega)]; exact hz1
   have HI1 := Lib.hid (HI.out 0 20 d0 w0 (Nat.zero_le _) (by omega) hn S0.out)
   have HI2 := Lib.hid (fun W h => HI.out 20 n d1 W (by omega) (Nat.le_refl _) hz1 h)
   rw [hd1] at HI1
   rw [hd2] at HI2
   have HF : Hid (stbF (ltOf cf) n d0 = if n = 20 then d2 else symR (ltOf cf) n 0 20 n d2) := Lib.hid (by
    unfold stbF
    rw [if_neg h20, hd1, hd2]
    by_cases e : n = 20
    · rw [if_pos e, if_pos e, ← hd2, e]
    · rw [if_neg e, if_neg e])
   have HM1 := Lib.hid (fun W (hlt : 20 < n) h => HM.out 0 20 n d2 W (by omega) (by omega) hlt (Nat.le_refl _) hz2 h)
   clear HI HM S0 hd1 hd2 hz1 hz2
   go_enter Tryz.func107, Tryz.ntmps107
   go_wp2_with fail
   go_loopw [7, 8] (fun s7 s8 wr => (s7 = .int .i64 0 ∧ s8 = .int .i64 20 ∧ w0 = wr) ∨ (s7 = .int .i64 20 ∧ s8 = .int .i64 40 ∧ Aside (SWK enc k w0 blk 0 d1 wr))) (fun _ s8 _ => 60 - (intOf s8).toNat)
   case atStart => exact .inl ⟨rfl, rfl, rfl⟩
   case round =>
    rcases hrel with ⟨rfl, rfl, rfl⟩ | ⟨rfl, rfl, S1⟩
    · go_wp2_with fail
      refine HI1.out.mono ?_
      rintro e w1 ⟨rfl, hys⟩
      have HY : Aside (SWK enc k w0 blk 0 d1 w1) := hys
      clear hys
      go_wp2_with fail
      go_roundw
      case rel => exact .inr ⟨rfl, rfl, HY⟩
      case measure => simp [intOf]
    · clear HI1
      go_wp2_with fail
      refine (HI2.out _ S1.out).mono ?_
      rintro e w1 ⟨rfl, hys⟩
      have HY : Aside (SWK enc k w0 blk 0 d2 w1) := hys
      clear hys S1 HI2
      go_wp2_with fail
      by_cases e20 : n = 20
      · have HF2 := Lib.hid (show stbF (ltOf cf) n d0 = d2 by rw [HF.out, if_pos e20])
        have h5 : ¬ (20 : Int) < (n : Int) := by omega
        clear HF e20 HM1
        go_loopw [6] (fun s6 wr => s6 = .int .i64 20 ∧ w1 = wr) (fun _ _ => 0)
        case atStart => exact ⟨rfl, rfl⟩
        case round =>
         obtain ⟨rfl, rfl⟩ := hrel
         go_wp2_with fail
         go_end0
         exact ⟨rfl, by rw [HF2.out]; exact HY.out⟩
      · have HF2 := Lib.hid (show stbF (ltOf cf) n d0 = symR (ltOf cf) n 0 20 n d2 by rw [HF.out, if_neg e20])
        have h5 : (20 : Int) < (n : Int) := by omega
        have HM2 := Lib.hid (HM1.out w1 (by omega) HY.out)
        clear HF e20 HM1 HY
        go_loopw [6] (fun s6 wr => (s6 = .int .i64 20 ∧ w1 = wr) ∨ (s6 = .int .i64 40 ∧ Aside (SWK enc k w0 blk 0 (symR (ltOf cf) n 0 20 n d2) wr))) (fun s6 _ => 60 - (intOf s6).toNat)
        case atStart => exact .inl ⟨rfl, rfl⟩
        case round =>
         rcases hrel with ⟨rfl, rfl⟩ | ⟨rfl, S3⟩
         · go_wp2_with fail
           go_loopw [7, 8] (fun s7 s8 wr => s7 = .int .i64 0 ∧ s8 = .int .i64 40 ∧ w1 = wr) (fun _ _ _ => 0)
           case atStart => exact ⟨rfl, rfl, rfl⟩
           case round =>
            obtain ⟨rfl, rfl, rfl⟩ := hrel
            go_wp2_with fail
            refine HM2.out.mono ?_
            rintro e w2 ⟨rfl, hys⟩
            have HY : Aside (SWK enc k w0 blk 0 (symR (ltOf cf) n 0 20 n d2) w2) := hys
            clear hys
            go_wp2_with fail
            go_roundw
            case rel => exact .inr ⟨rfl, HY⟩
            case measure => simp [intOf]
         · go_wp2_with fail
           go_end0
           exact ⟨rfl, by rw [HF2.out]; exact S3.out⟩
end Go.Proofs.YtapgnaimbgjcnaaGreatDoor
/-
  slices.SortStableFunc and CompactFunc at events with the stream's own closures, by contracts over a row.
-/
namespace Go.Proofs.YtapgnaimbgjcnaaGreatDoor
open Go Go.RowKit Go.Sort
instance : Inhabited Bev := ⟨⟨0, 0, noBev, noBev, noBev, noBev, 0, 0⟩⟩
theorem bevC_one : ∀ x : Bev, ∀ v ∈ bevC x, v.oneCell' = true := by
 intro x v hv
 simp only [bevC, List.mem_cons, List.not_mem_nil, or_false] at hv
 rcases hv with rfl | rfl | rfl | rfl | rfl | rfl | rfl | rfl <;> rfl
theorem run_clear_ev (w : World) (b o n c : Nat) (hn : 0 < n) (hc : ∀ j, j < n * 8 → (w.cell? ⟨b, o + j, none⟩).isSome = true) (hf : ∀ j, j < n * 8 → w.frozen? ⟨b, o + j, none⟩ = false) :
 ∃ vs : List Value, (∀ ty, (Builtin.clear_ #[26] ty #[.slice (some ⟨b, o, none⟩) n c]).run Tryz.prog w = .ok (.tuple #[]) (w.setCells b o vs)) ∧ vs.length = n * 8 := by
 have hv : ∀ w, (zeroValue 78).run Tryz.prog w = .ok (.agg #[.int .i64 0, .int .i64 0, .string ⟨#[]⟩, .string ⟨#[]⟩, .string ⟨#[]⟩, .string ⟨#[]⟩, .int .i64 0, .int .i64 0]) w := fun w => by kernel_rfl
 obtain ⟨vs, hvs⟩ : ∃ vs, (Builtin.zeroCells #[.int .i64 0, .int .i64 0, .string ⟨#[]⟩, .string ⟨#[]⟩, .string ⟨#[]⟩, .string ⟨#[]⟩, .int .i64 0, .int .i64 0] n).toList = vs := ⟨_, rfl⟩
 have hlen : vs.length = n * 8 := by rw [← hvs]; simp [Builtin.zeroCells]
 have h1 : ∀ v ∈ vs, v.oneCell' = true := by
  intro v hv
  rw [← hvs] at hv
  simp [Builtin.zeroCells] at hv
  obtain ⟨i, _, rfl⟩ := hv
  rcases (show i % 8 = 0 ∨ i % 8 = 1 ∨ i % 8 = 2 ∨ i % 8 = 3 ∨ i % 8 = 4 ∨ i % 8 = 5 ∨ i % 8 = 6 ∨ i % 8 = 7 by omega) with h | h | h | h | h | h | h | h <;> simp [h] <;> rfl
 have hst := run_storeCells_cells (P := Tryz.prog) b o vs 0 w (by simpa [hlen] using hc) (by simpa [hlen] using hf) h1
 simp only [Nat.add_zero] at hst
 refine ⟨vs, fun ty => ?_, hlen⟩
 obtain ⟨m, rfl⟩ : ∃ m, n = m + 1 := ⟨n - 1, by omega⟩
 simp [Builtin.clear_, run_underlying Tryz.underlying26, hv, Value.cells, hvs, hst, Result.andThen]
set_option maxRecDepth 100000 in
theorem evEq_calls (x y : Bev) (w : World) : Calls Tryz.prog 55 #[.agg (bevC x).toArray, .agg (bevC y).toArray] w (fun e w' => e = .returned (.bool (decide (ordBev x y = 0))) ∧ Gw w w') := by
 obtain ⟨a1, k1, i1, w1, b1, c1, t1, d1⟩ := x
 obtain ⟨a2, k2, i2, w2, b2, c2, t2, d2⟩ := y
 have HG : Hid (Gw w ((w.alloc (.cells #[.int .i64 a1, .int .i64 k1, .string i1, .string w1, .string b1, .string c1, .int .i64 t1, .int .i64 d1] 78)).alloc (.cells #[.int .i64 a2, .int .i64 k2, .string i2, .string w2, .string b2, .string c2, .int .i64 t2, .int .i64 d2] 78))) := Lib.hid (((Gw.refl w).alloc _).alloc _)
 have HO := Lib.hid (eventOrderG_calls a1 k1 t1 d1 a2 k2 t2 d2 i1 w1 b1 c1 i2 w2 b2 c2 ((w.alloc (.cells #[.int .i64 a1, .int .i64 k1, .string i1, .string w1, .string b1, .string c1, .int .i64 t1, .int .i64 d1] 78)).alloc (.cells #[.int .i64 a2, .int .i64 k2, .string i2, .string w2, .string b2, .string c2, .int .i64 t2, .int .i64 d2] 78)))
 obtain ⟨O, hO⟩ : ∃ O, ordBev ⟨a1, k1, i1, w1, b1, c1, t1, d1⟩ ⟨a2, k2, i2, w2, b2, c2, t2, d2⟩ = O := ⟨_, rfl⟩
 rw [hO] at HO ⊢
 clear hO
 show Calls Tryz.prog 55 #[.agg #[.int .i64 a1, .int .i64 k1, .string i1, .string w1, .string b1, .string c1, .int .i64 t1, .int .i64 d1], .agg #[.int .i64 a2, .int .i64 k2, .string i2, .string w2, .string b2, .string c2, .int .i64 t2, .int .i64 d2]] w _
 go_enter Tryz.func55, Tryz.ntmps55
 go_wp2_with fail
 refine HO.out.mono ?_
 rintro e w5 ⟨rfl, hg⟩
 have HG2 := Lib.hid (HG.out.trans hg)
 clear hg
 go_wp2_with fail
 go_ret
 exact ⟨rfl, HG2.out⟩
def sev (xs : List Bev) : List Bev := (stbF (ltOf ordBev) xs.length xs.toArray).toList
theorem stbF_size {lt : Bev → Bev → Bool} (hO : SWO lt) {n : Nat} {d : Array Bev} (hd : d.size = n) : (stbF lt n d).size = n := by
 unfold stbF
 split
 · rw [insR_size hO _ _ _ (Nat.zero_le _) (by omega)]; exact hd
 · have h1 : (insR lt d 0 20).size = n := by rw [insR_size hO _ _ _ (by omega) (by omega)]; exact hd
   split
   · rw [insR_size hO _ _ _ (by omega) (by omega)]; exact h1
   · rw [symR_size, insR_size hO _ _ _ (by omega) (by omega)]; exact h1
theorem sev_len (xs : List Bev) : (sev xs).length = xs.length := by
 unfold sev
 rw [Array.length_toList]
 exact stbF_size swo_bev (by simp)
def SoR (w : World) (base : Nat) (v : Value) (n : Nat) (xs : List Bev) (e : Ending) (w' : World) : Prop :=
 e = .returned (.tuple #[]) ∧ w'.ownsRow base 78 8 v n (xs.flatMap bevC) ∧ w.grownBy w' v.ownBlock
theorem insEv_none (w : World) (A : Option Addr) (c : Nat) :
 Calls Tryz.prog 155 #[.slice A 0 c, .int .i64 0, .int .i64 0, .func (.func 53) #[] #[]] w (fun e w' => e = .returned (.tuple #[]) ∧ w' = w) :=
 AnyF.insertionSortCmpFunc_none Tryz.insEv A c _ w
set_option maxRecDepth 100000 in
theorem stableE_none (w : World) (A : Option Addr) (c : Nat) :
 Calls Tryz.prog 107 #[.slice A 0 c, .int .i64 0, .func (.func 53) #[] #[]] w (fun e w' => e = .returned (.tuple #[]) ∧ w = w') := by
 have HI := Lib.hid (insEv_none w A c)
 go_enter Tryz.func107, Tryz.ntmps107
 go_wp2_with fail
 go_loopw [7, 8] (fun s7 s8 wr => s7 = .int .i64 0 ∧ s8 = .int .i64 20 ∧ wr = w) (fun _ _ _ => 0)
 case atStart => exact ⟨rfl, rfl, rfl⟩
 case round =>
  obtain ⟨rfl, rfl, rfl⟩ := hrel
  go_wp2_with fail
  refine HI.out.mono ?_
  rintro e w1 ⟨rfl, rfl⟩
  go_wp2_with fail
  go_loopw [6] (fun s6 wr => s6 = .int .i64 20 ∧ wr = w1) (fun _ _ => 0)
  case atStart => exact ⟨rfl, rfl⟩
  case round =>
   obtain ⟨rfl, rfl⟩ := hrel
   go_wp2_with fail
   go_end0
   exact ⟨rfl, rfl⟩
set_option maxRecDepth 100000 in
theorem sortEv_calls (base : Nat) (w : World) (A : Option Addr) (n c : Nat) (xs : List Bev) (hl : xs.length = n) (hn : n ≤ 39) (ho : w.ownsRow base 78 8 (.slice A n c) n (xs.flatMap bevC)) :
 Calls Tryz.prog 52 #[.slice A n c, .func (.func 53) #[] #[]] w (SoR w base (.slice A n c) n (sev xs)) := by
 by_cases h0 : n = 0
 · subst h0
   have hx : xs = [] := List.length_eq_zero_iff.1 hl
   subst hx
   have hs : sev [] = [] := List.length_eq_zero_iff.1 (sev_len [])
   have HF : Hid (SoR w base (.slice A 0 c) 0 (sev []) (.returned (.tuple #[])) w) := Lib.hid ⟨rfl, by rw [hs]; exact ho, ⟨rfl, rfl, rfl, Nat.le_refl _, fun _ _ _ => rfl⟩⟩
   have HI := Lib.hid (stableE_none w A c)
   clear ho hl hs
   go_enter Tryz.func52, Tryz.ntmps52
   go_wp2_with fail
   refine HI.out.mono ?_
   rintro e w1 ⟨rfl, rfl⟩
   go_wp2_with fail
   go_end0
   exact HF.out
 · obtain ⟨g, cap, hv, _⟩ := ho.form (by omega)
   injection hv with hA _ hc
   subst hA hc
   have hH : HoldsK bevC 8 w g 0 xs.toArray := holdsK_own _ 8 bevC_len (by decide) xs.toArray (by simpa using ho)
   have hz : xs.toArray.size = n := by simpa using hl
   have HI := Lib.hid (stableE_calls 8 Tryz.isAgg78 Tryz.sizeOf78 bevC ordBev swo_bev 53 #[] g c n xs.toArray w (enters_of Tryz.func53 (by kernel_rfl) rfl)
    (fun m os dk _ x y => eventOrderG_calls x.at_ x.kind x.time x.date y.at_ y.kind y.time y.date x.id x.who x.by_ x.cat y.id y.who y.by_ y.cat _) ⟨bevC_len, bevC_one, hH, (ho.lt g rfl).2⟩ hz hn)
   have HF : Hid (∀ w', SWK bevC 8 w g 0 (stbF (ltOf ordBev) n xs.toArray) w' → SoR w base (.slice (some ⟨g, 0, none⟩) n c) n (sev xs) (.returned (.tuple #[])) w') := Lib.hid (by
    rintro w' ⟨m, os, rfl⟩
    have hs : (stbF (ltOf ordBev) n xs.toArray).size = n := stbF_size swo_bev hz
    refine ⟨rfl, ?_, sortW_grown bevC 8 w g m _ os⟩
    unfold sev
    rw [hl]
    exact sortW_own bevC 8 bevC_len (by decide) ho m _ hs os)
   clear ho hl hH hz
   go_enter Tryz.func52, Tryz.ntmps52
   go_wp2_with fail
   refine HI.out.mono ?_
   rintro e w1 ⟨rfl, hys⟩
   have HY := Lib.hid (HF.out _ hys)
   clear hys
   go_wp2_with fail
   go_end0
   exact HY.out
theorem compactEv_calls (base : Nat) (w : World) (A : Option Addr) (n c : Nat) (xs : List Bev) (hn : n ≤ 1000) (hl : xs.length = n) (ho : w.ownsRow base 78 8 (.slice A n c) n (xs.flatMap bevC)) :
 Calls Tryz.prog 54 #[.slice A n c, .func (.func 55) #[] #[]] w (CpS w base 8 (.slice A n c) xs) :=
 compactG_calls 8 bevC_len (by decide) Tryz.isAgg78 Tryz.sizeOf78 run_clear_ev bevC_one 55 (enters_of Tryz.func55 (by kernel_rfl) rfl) evEq_calls base w A n c xs hn hl ho
end Go.Proofs.YtapgnaimbgjcnaaGreatDoor

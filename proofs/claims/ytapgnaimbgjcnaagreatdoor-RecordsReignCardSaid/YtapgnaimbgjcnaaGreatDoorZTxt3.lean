/-
  What a reading of lines holds of a world: the closure's own resources, and others; the lines as base.Lines cuts them are those that a line feed ends.
-/
import Derived.Test.YtapgnaimbgjcnaaGreatDoorZClk
import Derived.Test.YtapgnaimbgjcnaaGreatDoorZSlotPure
import Derived.Shelf.Strings.Builder1
import Derived.Shelf.Strings.Builder2
import Derived.Shelf.Strings.OnBuilder
import Derived.Shelf.LaysM
import Derived.Ground.SlsfProg
import Derived.Ground.SlgmProg
import Derived.Test.YtapgnaimbgjcnaaGreatDoorProg
import Derived.Test.YtapgnaimbgjcnaaGreatDoorZRatMake4
import Derived.Lib.ItoaLen
import Derived.Lib.JoinLaws
import Derived.Test.YtapgnaimbgjcnaaGreatDoorZHsP
import Derived.Test.YtapgnaimbgjcnaaGreatDoorZHs7
import Derived.Test.YtapgnaimbgjcnaaGreatDoorZBt4
namespace Go.Proofs.YtapgnaimbgjcnaaGreatDoor
open Go Go.RowKit
section
variable {w0 W W' : World} {Q : List (List UInt8) → List Rsc → Prop} {done : List (List UInt8)} {L : List Rsc}
theorem Sq.perm {w W : World} {l l' : List Rsc} (h : Sq w W l) (hp : l.Perm l') : Sq w W l' := ⟨h.below, h.hp.perm hp⟩
end
end Go.Proofs.YtapgnaimbgjcnaaGreatDoor
/-
  DERIVED: THE SHELF's CONTRACTS AT THIS DUMP, IN PLAIN WORDS (tools/lay-plain.mjs out of 'TryzShelf.lean', which tools/lay-shelf.mjs wrote): THE SAME DECLARATIONS UNDER THE SAME NAMES: 'import', 'namespace', 'open', 'def', 'theorem' AND NOTHING ELSE: no command of the shelf's: FOR A HAND-IN. Each laying: the table of numbers ('.._ren') and one theorem, a field a fact of the dump's own or the kernel's comparison; each contract: ONE APPLICATION.
-/
namespace Go.Proofs
open Go.Shelf
def Tryz.lays156_ren : Go.Shelf.Ren := ⟨fun | 156 => 177 | 165 => 235 | 166 => 236 | 169 => 237 | 240 => 273 | 241 => 274 | 276 => 287 | 277 => 288 | n => n, fun | 31 => 58 | 9 => 9 | 3 => 3 | 4 => 4 | 0 => 0 | 20 => 20 | 72 => 273 | 76 => 277 | 70 => 271 | 37 => 262 | 75 => 276 | 127 => 303 | 164 => 312 | 5 => 5 | 80 => 191 | n => n, fun | n => n⟩
theorem Tryz.lays156 : Go.Proofs.Lays.n156 Tryz.prog Tryz.lays156_ren := {
 mixed := by kernel_rfl
 f156 := Tryz.func177.trans (congrArg some (by kernel_rfl))
 f165 := Tryz.func235.trans (congrArg some (by kernel_rfl))
 f166 := Tryz.func236.trans (congrArg some (by kernel_rfl))
 f169 := Tryz.func237.trans (congrArg some (by kernel_rfl))
 f240 := Tryz.func273.trans (congrArg some (by kernel_rfl))
 f241 := Tryz.func274.trans (congrArg some (by kernel_rfl))
 f276 := Tryz.func287.trans (congrArg some (by kernel_rfl))
 f277 := Tryz.func288.trans (congrArg some (by kernel_rfl))
 t0 := Tryz.underlying0
 a0 := Tryz.isAgg0
 z0 := Tryz.sizeOf0
 v0 := Tryz.zeroValue0
 t3 := Tryz.underlying3
 a3 := Tryz.isAgg3
 z3 := Tryz.sizeOf3
 v3 := Tryz.zeroValue3
 t4 := Tryz.underlying4
 a4 := Tryz.isAgg4
 z4 := Tryz.sizeOf4
 v4 := Tryz.zeroValue4
 t9 := Tryz.underlying9
 a9 := Tryz.isAgg9
 z9 := Tryz.sizeOf9
 v9 := Tryz.zeroValue9
 t20 := Tryz.underlying20
 a20 := Tryz.isAgg20
 z20 := Tryz.sizeOf20
 v20 := Tryz.zeroValue20
 t31 := Tryz.underlying58
 a31 := Tryz.isAgg58
 z31 := Tryz.sizeOf58
 v31 := Tryz.zeroValue58
 t37 := Tryz.underlying262
 a37 := Tryz.isAgg262
 z37 := Tryz.sizeOf262
 v37 := Tryz.zeroValue262
 t70 := Tryz.underlying271
 a70 := Tryz.isAgg271
 z70 := Tryz.sizeOf271
 v70 := Tryz.zeroValue271
 t72 := Tryz.underlying273
 a72 := Tryz.isAgg273
 z72 := Tryz.sizeOf273
 v72 := Tryz.zeroValue273
 t75 := Tryz.underlying276
 a75 := Tryz.isAgg276
 z75 := Tryz.sizeOf276
 v75 := Tryz.zeroValue276
 t76 := Tryz.underlying277
 a76 := Tryz.isAgg277
 z76 := Tryz.sizeOf277
 v76 := Tryz.zeroValue277
 t127 := Tryz.underlying303
 a127 := Tryz.isAgg303
 z127 := Tryz.sizeOf303
 v127 := Tryz.zeroValue303
 t164 := Tryz.underlying312
 a164 := Tryz.isAgg312
 z164 := Tryz.sizeOf312
 v164 := Tryz.zeroValue312 }
theorem Tryz.Builder_Extra_156 : Builder.Extra Tryz.prog Tryz.lays156_ren := {
 sizeBuilder := by kernel_rfl
 liesBuilder := by kernel_rfl
 t5 := Tryz.underlying5
 a5 := Tryz.isAgg5
 z5 := Tryz.sizeOf5
 v5 := Tryz.zeroValue5
 infoByte := by kernel_rfl
 cellsByte := by kernel_rfl
 sizeByte := by kernel_rfl
 neB5 := by decide }
open Go.RowKit in
theorem Tryz.strings_Join_none (a : Option Addr) (c : Nat) (sep : ByteArray) (w : World) :
 Calls Tryz.prog 177 #[.slice a 0 c, .string sep] w fun e w' => e = .returned (.string ⟨#[]⟩) ∧ w' = w := Any.strings_Join_none Tryz.lays156 Tryz.Builder_Extra_156 a c sep w
open Go.RowKit in
theorem Tryz.strings_Join (bk o c : Nat) (xs : List ByteArray) (sep : ByteArray) (w : World) (hcells : ∀ (j : Nat) x, xs[j]? = some x → w.cell? ⟨bk, o + j, none⟩ = some (.string x)) (hbk : bk < w.heap.size) (hN : xs.length ≤ 140737488355328) (hcap : xs.length ≤ c) (hlen : (Lib.join (xs.map (·.data.toList)) sep.data.toList).length ≤ 140737488355328) :
 Calls Tryz.prog 177 #[.slice (some ⟨bk, o, none⟩) xs.length c, .string sep] w fun e w' => e = .returned (.string ⟨(Lib.join (xs.map (·.data.toList)) sep.data.toList).toArray⟩) ∧ Below w.heap.size w w' := Any.strings_Join Tryz.lays156 Tryz.Builder_Extra_156 bk o c xs sep w hcells hbk hN hcap hlen
end Go.Proofs
/-
  Numbers that are written with blanks between: splitref2.Numbers by its contract.
-/
namespace Go.Proofs.YtapgnaimbgjcnaaGreatDoor
open Go Go.RowKit
theorem ints_cellsN {w : World} {b n c : Nat} {A : Option Addr} {hs : List Int} (h : Rd w b 1 (.slice A n c) n (hs.map (Value.int .i64))) :
 hs.length = n ∧ n ≤ c ∧ c ≤ maxLen ∧ (0 < n → ∃ g o, A = some ⟨g, o, none⟩ ∧ g ≠ b ∧ ∀ i (hi : i < hs.length), w.cell? ⟨g, o + i, none⟩ = some (.int .i64 hs[i])) := by
 obtain ⟨A', c', e1, e2, e3, e4, e5, e6⟩ := h
 injection e1 with ea eb ec
 subst ea ec
 refine ⟨by simpa using e4, e2, e3, fun hn => ?_⟩
 obtain ⟨g, o, f1, f2, f3⟩ := e6 hn
 refine ⟨g, o, f1, f2, fun i hi => f3 i _ ?_⟩
 rw [List.getElem?_map, List.getElem?_eq_getElem hi]
 rfl
theorem flat_one {α β : Type} (f : α → β) : ∀ l : List α, l.flatMap (fun x => [f x]) = l.map f
 | [] => rfl
 | a :: t => by rw [List.flatMap_cons, flat_one f t]; rfl
def numsB (zs : List Int) : List ByteArray := zs.map (fun z => ⟨(Lib.itoa z).toArray⟩)
theorem numsB_data (zs : List Int) : (numsB zs).map (·.data.toList) = zs.map Lib.itoa := by
 unfold numsB
 rw [List.map_map]
 rfl
def joinN (zs : List Int) : ByteArray := ⟨(Lib.join (zs.map Lib.itoa) [32]).toArray⟩
theorem joinN_one (z : Int) : joinN [z] = ⟨(Lib.itoa z).toArray⟩ := by
 unfold joinN
 rw [List.map_cons, List.map_nil, Lib.join_one]
theorem joinT_len (sep : List UInt8) : ∀ xs : List (List UInt8), (∀ x ∈ xs, x.length ≤ 21) → (Lib.join xs sep).length ≤ xs.length * (21 + sep.length)
 | [], _ => by rw [Lib.join_nil]; exact Nat.zero_le _
 | x :: r, h => by
   rw [Lib.join_cons]
   have h1 : ∀ ys : List (List UInt8), (∀ y ∈ ys, y.length ≤ 21) → (Lib.joinTail sep ys).length ≤ ys.length * (21 + sep.length) := by
    intro ys
    induction ys with
    | nil => intro _; simp [Lib.joinTail]
    | cons y t ih =>
      intro hy
      have h2 := ih (fun z hz => hy z (List.mem_cons_of_mem _ hz))
      have h3 := hy y (List.mem_cons_self ..)
      unfold Lib.joinTail at h2 ⊢
      rw [List.map_cons, List.flatten_cons, List.length_append, List.length_append, List.length_cons, Nat.add_mul]
      omega
   have h2 := h1 r (fun z hz => h z (List.mem_cons_of_mem _ hz))
   have h3 := h x (List.mem_cons_self ..)
   rw [List.length_append, List.length_cons, Nat.add_mul]
   omega
set_option maxRecDepth 100000 in
set_option maxHeartbeats 2000000 in
theorem numbers_calls (b : Nat) (A : Option Addr) (n c : Nat) (zs : List Int) (w : World) (hr : Rd w b 1 (.slice A n c) n (zs.map (Value.int .i64))) (hz : ∀ z ∈ zs, -9223372036854775808 ≤ z ∧ z ≤ 9223372036854775807) (ht : Tab w) (h0 : 0 < n) (hn : n ≤ 100) :
 Calls Tryz.prog 130 #[.slice A n c] w (BRet (.string (joinN zs)) w) := by
 obtain ⟨hl, hnc, hcm, hcells⟩ := ints_cellsN hr
 obtain ⟨g, o, hA, _, hcs⟩ := hcells h0
 subst hA
 obtain ⟨j0, hj, hy0, hy1, hy2⟩ := info_parts info_str
 have HL := Lib.hid hl
 have HCS := Lib.hid hcs
 have HZ := Lib.hid hz
 have hS0 := (Sq.start w).nil w.heap.size 9 1
 have HJ : Hid (∀ W A c, W.ownsRow w.heap.size 9 1 (.slice A n c) n (strsV (numsB zs)) → Calls Tryz.prog 177 #[.slice A n c, .string ⟨#[32]⟩] W (fun e w' => e = .returned (.string (joinN zs)) ∧ Below W.heap.size W w')) := by
  refine Lib.hid (fun W A c ho => ?_)
  have hnl : (numsB zs).length = n := by unfold numsB; rw [List.length_map, hl]
  obtain ⟨bk, cap, hv, hbk1, hbk2⟩ := ho.form h0
  have hA : A = some ⟨bk, 0, none⟩ := by injection hv
  subst hA
  have hcap := own_cap ho
  have hcells : ∀ (j : Nat) x, (numsB zs)[j]? = some x → W.cell? ⟨bk, 0 + j, none⟩ = some (.string x) := by
   intro j x hx
   have hjl : j < (numsB zs).length := (List.getElem?_eq_some_iff.1 hx).1
   have := own_cell (fun x : ByteArray => [Value.string x]) 1 (fun _ => rfl) (rs := numsB zs) (by rw [show (numsB zs).flatMap (fun x : ByteArray => [Value.string x]) = strsV (numsB zs) from flat_one _ _]; exact ho) j 0 hjl (by omega) (by omega)
   rw [Nat.mul_one, Nat.add_zero] at this
   rw [Nat.zero_add, this]
   rw [List.getElem?_eq_getElem hjl] at hx
   rw [Option.some.inj hx]
   rfl
  have hlen : (Lib.join ((numsB zs).map (·.data.toList)) [32]).length ≤ 140737488355328 := by
   rw [numsB_data]
   have := joinT_len [32] (zs.map Lib.itoa) (fun x hx => by
    obtain ⟨z, hz1, rfl⟩ := List.mem_map.1 hx
    exact Lib.itoa_length_le z (hz z hz1).1 (hz z hz1).2)
   rw [List.length_map, hl] at this
   simp at this
   omega
  have := Tryz.strings_Join bk 0 c (numsB zs) ⟨#[32]⟩ W hcells hbk2 (by rw [hnl]; omega) (by rw [hnl]; exact hcap.1) hlen
  rw [hnl] at this
  refine this.mono ?_
  rintro e w' ⟨rfl, hb⟩
  refine ⟨?_, hb⟩
  rw [numsB_data]
  rfl
 clear hr hl hcells hcs hz
 go_enter Tryz.func130, Tryz.ntmps130
 go_wp2_with fail
 go_loopw [3, 8] (fun v i wr => ∃ (k : Nat) (A1 : Option Addr) (c1 : Nat), k ≤ n ∧ i = .int .i64 k ∧ v = .slice A1 k c1 ∧ Sq w wr [rOwn w.heap.size 9 1 (.slice A1 k c1) k (strsV (numsB (zs.take k)))]) (fun _ i _ => n - (intOf i).toNat)
 case atStart => exact ⟨0, none, 0, Nat.zero_le _, rfl, rfl, hS0⟩
 case round =>
  clear hS0
  obtain ⟨k, A1, c1, hk, rfl, rfl, hS⟩ := hrel
  by_cases hlt : k < n
  · have hkz : k < zs.length := by rw [HL.out]; exact hlt
    have c0 := below_cell hS.below (HCS.out k hkz)
    have hzk := HZ.out _ (List.getElem_mem hkz)
    have HI : Hid (numsB (zs.take (k + 1)) = numsB (zs.take k) ++ [⟨(Lib.itoa zs[k]).toArray⟩]) := by
     refine Lib.hid ?_
     rw [List.take_succ_eq_append_getElem hkz]
     unfold numsB
     rw [List.map_append]
     rfl
    obtain ⟨z, hzv⟩ : ∃ z, z = zs[k] := ⟨_, rfl⟩
    rw [← hzv] at c0 hzk HI
    have HIT := Lib.hid (fun V (h : Tab V) => itoa_calls z hzk.1 hzk.2 V h)
    obtain ⟨x, hx⟩ : ∃ x : ByteArray, x = ⟨(Lib.itoa z).toArray⟩ := ⟨_, rfl⟩
    rw [← hx] at HIT HI
    have htw := ht.below hS.below
    clear hx hzv
    go_wp2_with (first
     | (go_at_call 63; refine (HIT.out _ htw).mono ?_; rintro e w2 ⟨rfl, hb2⟩; have hS2 := hS.callB hb2; have HO := hS2.head; have hz2 := hS2.size)
     | (at_builtin; refine wpList_append_own_at _ rfl _ _ 58 rfl w.heap.size 9 j0 (.string ⟨#[]⟩) 1 16 Tryz.underlying58 hj hy0 hy1 hy2 rfl (by decide) _ _ _ rfl (HO.alloc _) ⟨w2.heap.size, 0, none⟩ 1 1 [.string x] rfl rfl (World.news_of_block (heap_alloc_new _ _)) (one1 rfl) (by unfold maxLen; omega) (by omega) (by simp; omega) ?_; intro v' w8 hown' hgrow _ hblk; have hS8 := (hS2.alloc _).append hown' hgrow hblk; obtain ⟨A8, c8, hv8⟩ := own_form hown'; subst hv8; clear hown' hgrow hblk HO))
    have hS9 : Sq w w8 [rOwn w.heap.size 9 1 (.slice A8 (k + 1) c8) (k + 1) (strsV (numsB (zs.take (k + 1))))] := by
     rw [HI.out]
     have e : strsV (numsB (zs.take k) ++ [x]) = strsV (numsB (zs.take k)) ++ [.string x] := by simp [strsV]
     rw [e]
     exact hS8
    go_roundw
    case rel => exact ⟨k + 1, A8, c8, by omega, by go_num, rfl, hS9⟩
    case measure => simp [intOf]; omega
  · obtain rfl : k = n := by omega
    have ho : wr.ownsRow w.heap.size 9 1 (.slice A1 k c1) k (strsV (numsB zs)) := by
     have := hS.head
     rw [List.take_of_length_le (by rw [HL.out]; exact Nat.le_refl _)] at this
     exact this
    have HJ2 := Lib.hid (HJ.out wr A1 c1 ho)
    clear ho HJ
    go_wp2_with (first | (go_at_call 177; refine HJ2.out.mono ?_; rintro e w2 ⟨rfl, hb2⟩))
    go_ret
    exact ⟨rfl, below_call hS.below hb2 (Nat.le_refl _)⟩
end Go.Proofs.YtapgnaimbgjcnaaGreatDoor
/-
  splitref2.countsBy by its contract.
-/
namespace Go.Proofs.YtapgnaimbgjcnaaGreatDoor
open Go Go.RowKit Go.Sort
attribute [local go_sem ↓] Go.wp_at_zero Go.wp_at_succ
def CntbR (g : LgM) (ks : List ByteArray) (w0 : World) (l : List Rsc) (e : Ending) (w' : World) : Prop :=
 ∃ (A : Option Addr) (c : Nat) (zs : List ByteArray), e = .returned (.slice A zs.length c) ∧ zs.Perm ks ∧ zs.Pairwise (fun a b => 0 ≤ cmpG g b a) ∧ Sq w0 w' (rOwn w0.heap.size 53 2 (.slice A zs.length c) zs.length (zs.flatMap (prL g)) :: l)
set_option maxRecDepth 100000 in
set_option maxHeartbeats 8000000 in
theorem countsBy_calls (mb nn : Nat) (g : LgM) (ks : List ByteArray) (w0 w : World) (hK : KeysM (lgV g) ks) (hP : ∀ s ∈ ks, PkL g s) (hk : ks.length ≤ 1000) (ht : Tab w0) (hS : Sq w0 w [rMap 9 mb nn (lgV g)]) :
 Calls Tryz.prog 74 #[.map (some mb)] w (CntbR g ks w0 []) := by
 obtain ⟨i0, hi, hz0, hz1, hz2⟩ := info_parts info_prH
 obtain ⟨gB, hgB⟩ : ∃ z, z = w.heap.size := ⟨_, rfl⟩
 have hS1 := hS.add #[.map (some mb)] 100
 obtain ⟨W1, hW1⟩ : ∃ W, W = w.alloc (.cells #[.map (some mb)] 100) := ⟨_, rfl⟩
 rw [← hW1, ← hgB] at hS1
 have HMP : MapS W1 9 mb nn (lgV g) := hS1.nth 1 rfl
 have cg := (hS1.head : Blk W1 gB _ _).cell 0
 have HKM := Lib.hid hK
 have HPK := Lib.hid hP
 have HTB := Lib.hid ht
 clear hS hK hP ht
 go_enter Tryz.func74, Tryz.ntmps74
 go_upto_region 2 with (fail)
 rw [← hgB, ← hW1]
 clear hgB hW1
 go_wp2_with (first | (at_range; refine wpList_range_map _ rfl _ 100 rfl 9 3 Tryz.underlying9 Tryz.underlying100 mb nn (lgV g) rfl HMP ?_; intro w1 cnt0 hr0 hg0 hs0))
 go_frame
 have hS2 := ((hS1.front 1 rfl rfl).rngStart hr0 hg0).nil w0.heap.size 53 2
 obtain ⟨r, hr⟩ : ∃ r, r = W1.heap.size := ⟨_, rfl⟩
 rw [← hr] at hS2 ⊢
 clear hS1 hr0 hg0 hs0 HMP hr cg
 go_loopw [3] (fun s3 wr => ∃ (A : Option Addr) (c : Nat) (seen : List ByteArray) (cnt : Nat), s3 = .slice A seen.length c ∧ Hid (∀ s ∈ seen, s.size ≤ maxLen ∧ s ∈ ks) ∧ Sq w0 wr [rOwn w0.heap.size 53 2 (.slice A seen.length c) seen.length (seen.flatMap (prL g)), rRng 9 mb r nn (lgV g) seen cnt, rBlk gB 100 #[.map (some mb)]]) (fun _ wr => wr.rangeLeft mb r)
 case atStart => exact ⟨none, 0, [], cnt0, rfl, Lib.hid (fun s hs => by cases hs), hS2⟩
 case round =>
  clear hS2
  obtain ⟨A, c, seen, cnt, rfl, HSN, hS⟩ := hrel
  have hrg : RngS wr 9 mb r nn (lgV g) seen cnt := hS.nth 1 rfl
  have hnd := hrg.nodup
  have hsl0 : seen.length ≤ 1000 := by
   have := nd_len seen ks hnd (fun s hs => (HSN.out s hs).2)
   omega
  go_wp2_with (first | (at_next; refine wpList_next_map _ rfl _ rfl 9 Tryz.underlying9 mb r nn (lgV g) seen cnt rfl hrg ?_ ?_))
  · intro hdone
    have hper : seen.Perm ks := (List.perm_ext_iff_of_nodup hnd HKM.out.nd).2 (fun s => ⟨fun h => (HSN.out s h).2, fun h => (hdone s (HKM.out.sz s h)).1 ((HKM.out.iff s (HKM.out.sz s h)).1 h)⟩)
    have hS3 := ((hS.front 1 rfl rfl).rngEnd.front 1 rfl rfl)
    obtain ⟨q, hq⟩ : ∃ q, seen.length = q := ⟨_, rfl⟩
    rw [hq] at hS3 ⊢
    have cg := (hS3.nth 2 rfl : Blk wr gB _ _).cell 0
    have HSO := Lib.hid (sortCnt_calls w0 wr A q c gB mb nn g seen _ hq (fun s hs => HPK.out s (HSN.out s hs).2) (by omega) cg (hS3.nth 1 rfl) (fun q' hq' => by
     subst hq'
     have h1 := (List.pairwise_cons.1 hS3.hp.apart).1 (rMap 9 mb nn (lgV g)) (by simp)
     have h2 := (List.pairwise_cons.1 hS3.hp.apart).1 (rBlk gB 100 #[.map (some mb)]) (by simp)
     have h3 := (hS3.hp.new (rMap 9 mb nn (lgV g)) (by simp) mb rfl).2
     have h4 := (hS3.hp.new (rBlk gB 100 #[.map (some mb)]) (by simp) gB rfl).2
     exact ⟨fun e => h2 q' rfl e, fun e => h1 q' rfl e, h4, h3⟩) hS3)
    have HPE := Lib.hid hper
    have HQ := Lib.hid hq
    clear hS hrg hdone hper hS3 hq hnd
    go_wp2_with fail
    refine HSO.out.mono ?_
    rintro e w5 ⟨rfl, zs, h1, h2, h3⟩
    have HF : Hid (CntbR g ks w0 [] (.returned (.slice A q c)) w5) := Lib.hid (by
     have hl : zs.length = q := by rw [h1.length_eq]; exact HQ.out
     refine ⟨A, c, zs, by rw [hl], h1.trans HPE.out, h2, ?_⟩
     rw [hl]
     exact (h3.drop 2 rfl rfl).drop 1 rfl rfl)
    clear h1 h2 h3
    go_wp2_with fail
    go_ret
    exact HF.out
  · intro s v w2 cnt2 hnew hsl hf hrg2 hlt2 hg2 hs2 hen
    have hl1 : wr.rangeLeft mb r = cnt := hrg.left
    have hS2 := (hS.front 1 rfl rfl).rngStep hrg2 hg2
    have hlt3 : cnt2 < wr.rangeLeft mb r := by rw [hl1]; exact hlt2
    have HLT := Lib.hid hlt3
    have hsk : s ∈ ks := (HKM.out.iff s hsl).2 (by rw [hf]; rfl)
    have HSN2 : Hid (∀ t ∈ seen ++ [s], t.size ≤ maxLen ∧ t ∈ ks) := Lib.hid (fun t ht => by
     rcases List.mem_append.1 ht with ht | ht
     · exact HSN.out t ht
     · have ht := List.mem_singleton.1 ht; subst ht; exact ⟨hsl, hsk⟩)
    obtain ⟨x, hx, hv⟩ : ∃ x, (g s).getD 0 = x ∧ v = .int .i64 x := by
     unfold lgV at hf
     cases hg : g s with
     | none => rw [hg] at hf; cases hf
     | some z => rw [hg] at hf; injection hf with hf; exact ⟨z, rfl, hf.symm⟩
    subst hv
    clear hrg hS hl1 hlt2 hlt3 hg2 hrg2
    have hpk := HPK.out s hsk
    have hxb : 0 ≤ x ∧ x ≤ 1000000000000000 := by rw [← hx]; exact hpk.2
    have hrd : Rd (w2.alloc (.cells #[.int .i64 x] 3)) (w2.heap.size + 5) 1 (.slice (some ⟨w2.heap.size, 0, none⟩) 1 1) 1 ([x].map (Value.int .i64)) := Rd.lit w2 _ 1 1 #[.int .i64 x] _ (by omega) (by decide) rfl
    have HNU := Lib.hid (numbers_calls (w2.heap.size + 5) _ 1 1 [x] _ hrd (fun z hz => by simp at hz; omega) (HTB.out.below (hS2.alloc _).below) (by omega) (by omega))
    rw [joinN_one] at HNU
    rw [hs2] at HNU
    obtain ⟨t, ht⟩ : ∃ t : ByteArray, (⟨(Lib.itoa x).toArray⟩ : ByteArray) = t := ⟨_, rfl⟩
    rw [ht] at HNU
    have HPL : Hid (prL g s = [.string s, .string t]) := Lib.hid (by unfold prL; rw [hx, ht])
    have HS2 := Lib.hid (hS2.alloc (.cells #[.int .i64 x] 3))
    clear hS2 hrd hpk hxb hx ht hf hsk hnew
    go_wp2_with fail
    refine HNU.out.mono ?_
    rintro e w5 ⟨rfl, hb5⟩
    have hS5 := (HS2.out.callB hb5).front 1 rfl rfl
    have HO5 : w5.ownsRow w0.heap.size 53 2 (.slice A seen.length c) seen.length (seen.flatMap (prL g)) := hS5.head
    have hsz5 := hS5.size
    clear HNU HS2 hb5
    go_wp2_with (first
     | (at_builtin; refine wpList_append_own_at _ rfl _ _ 35 rfl w0.heap.size 53 i0 (.agg #[.string ⟨#[]⟩, .string ⟨#[]⟩]) 2 32 Tryz.underlying35 hi hz0 hz1 hz2 rfl (by decide) _ _ _ rfl (HO5.alloc _) ⟨w5.heap.size, 0, none⟩ 1 1 [.string s, .string t] rfl rfl (World.news_of_block (heap_alloc_new _ _)) (by intro v hv; simp only [List.mem_cons, List.not_mem_nil, or_false] at hv; rcases hv with rfl | rfl <;> rfl) (by unfold maxLen; omega) (by omega) (by rw [World.size_alloc]; omega) ?_; intro v6 w9 hown6 hgrow6 _ hat6; have hS9 := (hS5.alloc _).append hown6 hgrow6 hat6; obtain ⟨A8, c8, hv8⟩ := own_form hown6; subst hv8))
    have hrl : w9.rangeLeft mb r = cnt2 := (hS9.nth 1 rfl : RngS w9 9 mb r nn (lgV g) (seen ++ [s]) cnt2).left
    go_roundw
    case rel => exact ⟨A8, c8, seen ++ [s], cnt2, by rw [List.length_append]; rfl, HSN2, by rw [List.flatMap_append, List.flatMap_singleton, HPL.out, List.length_append]; exact hS9⟩
    case measure => rw [hrl]; exact HLT.out
end Go.Proofs.YtapgnaimbgjcnaaGreatDoor
/-
  How long somebody reigned: bounds of the numbers; lists of names by these numbers are one. No walk.
-/
namespace Go.Proofs.YtapgnaimbgjcnaaGreatDoor
open Go Go.RowKit
def RgB (r : Rgn) : Prop := 0 ≤ r.to_ - r.from_ ∧ r.to_ - r.from_ ≤ 345686400000
theorem fix_bd (u : Int) (hu : u ≤ 345686400000) : ∀ l : List Bev, l.Pairwise (fun a b => a.date < b.date) → (∀ x ∈ l, 0 ≤ x.date ∧ x.date ≤ 345686400000) → ∀ r ∈ fixTo (l.map (rgnOf u)), RgB r
 | [], _, _ => by intro r hr; cases hr
 | [a], _, h => by
   intro r hr
   have ha := h a (List.mem_singleton.2 rfl)
   have hr : r ∈ [rgnOf u a] := hr
   rw [List.mem_singleton.1 hr]
   show 0 ≤ max u a.date - a.date ∧ max u a.date - a.date ≤ 345686400000
   omega
 | a :: b :: t, hp, h => by
   intro r hr
   have ha := h a (List.mem_cons_self ..)
   have hb := h b (by simp)
   have hab := (List.pairwise_cons.1 hp).1 b (by simp)
   have hr : r ∈ (⟨a.id, a.who, a.time, a.date, b.date⟩ : Rgn) :: fixTo ((b :: t).map (rgnOf u)) := hr
   rcases List.mem_cons.1 hr with rfl | hr
   · show 0 ≤ b.date - a.date ∧ b.date - a.date ≤ 345686400000
     omega
   · exact fix_bd u hu (b :: t) (List.pairwise_cons.1 hp).2 (fun x hx => h x (List.mem_cons_of_mem _ hx)) r hr
theorem kd_fol {l : List Bev} (h : ∀ x ∈ l, EvK x) (u : Int) : KD (folE l u).1 := by
 have h2 := KD.fol l u h l.length (Nat.le_refl _)
 rwa [List.take_length] at h2
theorem his_form {D : Dsk} {cat : ByteArray} (hK : KD D) (u : Int) {ys : List Bev} (hY : SbdH D cat ys) : hisF u ys = fixTo ((ys.filter (keepH ys)).map (rgnOf u)) ∧ (ys.filter (keepH ys)).Pairwise (fun a b => a.date < b.date) := by
 have hst := sbdH_strict hK hY
 have e : recs ys = ys.filter (keepH ys) := by
  rw [recs_eq]
  exact recsS_keep ys [] hst
 exact ⟨by rw [hisF_eq, e], recs_dates hst⟩
theorem his_bd {l : List Bev} (h : ∀ x ∈ l, bevF x = 0) {u : Int} {cat : ByteArray} (hu : u ≤ 345686400000) {ys : List Bev} (hY : SbdH (folE l u).1 cat ys) : ∀ r ∈ hisF u ys, RgB r := by
 obtain ⟨e, hd⟩ := his_form (kd_fol (fun x hx => evK_one (h x hx)) u) u hY
 rw [e]
 exact fix_bd u hu _ hd (fun x hx => brd_dates h u cat x (hY.1.mem_iff.1 (List.mem_filter.1 hx).1))
theorem lg_val : ∀ (H : List Rgn) (g : LgM) (k : Nat), (∀ s, 0 ≤ (g s).getD 0 ∧ (g s).getD 0 ≤ (k : Int) * 345686400000) → (∀ r ∈ H, RgB r) → k + H.length ≤ 2000 → ∀ s, 0 ≤ ((H.foldl lgS g) s).getD 0 ∧ ((H.foldl lgS g) s).getD 0 ≤ ((k + H.length : Nat) : Int) * 345686400000
 | [], g, k, h, _, _ => h
 | r :: H, g, k, h, hr, hn => by
   have h1 := hr r (List.mem_cons_self ..)
   unfold RgB at h1
   rw [List.length_cons] at hn ⊢
   have ih := lg_val H (lgS g r) (k + 1) (fun s => by
    have hw := h r.who
    unfold lgS
    split
    · show 0 ≤ IntKind.i64.wrap _ ∧ IntKind.i64.wrap _ ≤ _
      rw [IntWalk.i64_in (r.to_ - r.from_) (by omega), IntWalk.i64_in _ (by omega)]
      omega
    · have := h s
      omega) (fun x hx => hr x (List.mem_cons_of_mem _ hx)) (by omega)
   rw [show k + (H.length + 1) = k + 1 + H.length by omega]
   exact ih
theorem lg_pk {H : List Rgn} (hr : ∀ r ∈ H, RgB r) (hn : H.length ≤ 2000) (hz : ∀ r ∈ H, r.who.size ≤ maxLen) : ∀ s ∈ lgKs H, PkL (lgF H) s := by
 intro s hs
 have h1 := lg_val H (fun _ => none) 0 (fun s => ⟨Int.le_refl _, by show (0 : Int) ≤ _; omega⟩) hr (by omega) s
 have h2 := (lg_keys H hz).sz s hs
 refine ⟨h2, h1.1, ?_⟩
 have := h1.2
 show ((H.foldl lgS (fun _ => none)) s).getD 0 ≤ _
 omega
theorem names_one (g : LgM) {a b : List ByteArray} (hp : a.Perm b) (h1 : a.Pairwise (fun x y => 0 ≤ cmpG g y x)) (h2 : b.Pairwise (fun x y => 0 ≤ cmpG g y x)) : a = b := by
 refine List.Perm.eq_of_pairwise (le := fun x y => 0 ≤ cmpG g y x) ?_ h1 h2 hp
 intro x y _ _ hxy hyx
 have h3 := (ord3_cmpG g).neg x y
 have hz : cmpG g x y = 0 := by omega
 unfold cmpG at hz
 split at hz
 · exact cmpS_zero hz
 · rename_i h; exact absurd hz h
end Go.Proofs.YtapgnaimbgjcnaaGreatDoor
/-
  splitref2.ReignedOf by its contract. (Printed by gen_hse.py.)
-/
namespace Go.Proofs.YtapgnaimbgjcnaaGreatDoor
open Go Go.RowKit
attribute [local go_sem ↓] Go.wp_at_zero Go.wp_at_succ
def RgoR (H : List Rgn) (w : World) (e : Ending) (w' : World) : Prop :=
 ∃ (A : Option Addr) (c : Nat) (zs : List ByteArray), e = .returned (.slice A zs.length c) ∧ zs.Perm (lgKs H) ∧ zs.Pairwise (fun a b => 0 ≤ cmpG (lgF H) b a) ∧ Sq w w' [rOwn w.heap.size 53 2 (.slice A zs.length c) zs.length (zs.flatMap (prL (lgF H)))]
set_option maxRecDepth 100000 in
set_option maxHeartbeats 8000000 in
theorem reignedOf_calls (b : Nat) (A : Option Addr) (n c : Nat) (l : List Bev) (u : Int) (cat : ByteArray) (L : List Bev) (w : World) (hb : b < w.heap.size) (hr : Rd w b 8 (.slice A n c) n (l.flatMap bevC)) (hv : ∀ x ∈ l, bevF x = 0) (hn : n ≤ 100) (hu : u ≤ 345686400000) (hL : SbdH (folE l u).1 cat L) (ht : Tab w) :
 Calls Tryz.prog 20 #[.slice A n c, .string cat, .int .i64 u] w (RgoR (hisF u L) w) := by
 have hev : ∀ x ∈ l, EvK x := fun x hx => evK_one (hv x hx)
 have hln : l.length ≤ 100 := by
  obtain ⟨h, _, _, _⟩ := hr.cells bevC_len (by omega)
  omega
 have HKD := Lib.hid (kd_fol hev u)
 have HSZ := Lib.hid (his_sz HKD.out hL)
 have HBD := Lib.hid (his_bd hv hu hL)
 have HFEW := Lib.hid (brd_half l u cat hev)
 have HLE := Lib.hid (his_le u L)
 have HLY := Lib.hid hL.1.length_eq
 have HLN := Lib.hid hln
 have HTB := Lib.hid ht
 have hmm := @run_makeMap Tryz.prog
 obtain ⟨mb, hmb⟩ : ∃ z, z = w.heap.size := ⟨_, rfl⟩
 obtain ⟨W2, hW2, hS2⟩ : ∃ W, W = w.alloc (.map #[] 0) ∧ Sq w W [rMap 9 mb 0 (fun _ => none)] := ⟨_, rfl, by
  have h := (Sq.start w).addMap 9
  rw [← hmb] at h
  exact h⟩
 have HH := Lib.hid (historyOf_calls b A n c l u cat W2 (Nat.lt_of_lt_of_le hb hS2.size) (hS2.rd hr) hev (by omega) (brd_dates hv u cat))
 have HONE : Hid (∀ ys S, SbdR (folE l u).1 cat ys → S.Perm ((ys.filter (keepH ys)).map (rgnOf u)) → S.Pairwise (fun a b => a.from_ ≤ b.from_) → fixTo S = hisF u L) := Lib.hid (fun ys S h1 h2 h3 => his_one u HKD.out hL h1 h2 h3)
 obtain ⟨H, hH⟩ : ∃ H, hisF u L = H := ⟨_, rfl⟩
 rw [hH] at HSZ HBD HLE HONE ⊢
 have HS2 := Lib.hid hS2
 clear hr hv hev hL ht hln hu hH hS2 HKD
 go_enter Tryz.func20, Tryz.ntmps20
 go_upto_region 2 with (fail)
 rw [← hmb, ← hW2]
 clear hmb hW2 hmm
 go_wp2_with fail
 refine HH.out.mono ?_
 rintro e w3 ⟨A3, c3, ys, S, hY, hSp, hSs, rfl, hS3⟩
 have hone := HONE.out ys S hY hSp hSs
 have hlS : S.length = H.length := by rw [← hone, fixTo_len]
 rw [hone, hlS] at hS3
 rw [hlS]
 obtain ⟨q, hq⟩ : ∃ q, H.length = q := ⟨_, rfl⟩
 rw [hq] at hS3 HLE ⊢
 have HQ := Lib.hid hq
 have hq19 : q ≤ 1000 := by have h1 := HLE.out; have h2 := HLY.out; have h3 := HFEW.out; have h4 := HLN.out; omega
 have hS4 : Sq w w3 [rMap 9 mb 0 (lgV (lgF (H.take 0))), rOwn w.heap.size 50 5 (.slice A3 q c3) q (H.flatMap rgnC)] := ((HS2.out.merge hS3).rebase HS2.out.size).front 1 rfl rfl
 have HAH : Hid (0 < q → ∃ g, A3 = some ⟨g, 0, none⟩) := Lib.hid (fun h0 => own_ptr (hS4.nth 1 rfl : World.ownsRow _ _ _ _ _ _ _) h0)
 clear hY hSp hSs hone hlS hq hS3 HH HS2 HONE
 go_wp2_with fail
 go_loopw [16] (fun s30 wr => ∃ k : Nat, k ≤ q ∧ s30 = .int .i64 k ∧ Sq w wr [rMap 9 mb k (lgV (lgF (H.take k))), rOwn w.heap.size 50 5 (.slice A3 q c3) q (H.flatMap rgnC)]) (fun s30 _ => q - (intOf s30).toNat)
 case atStart => exact ⟨0, Nat.zero_le _, rfl, hS4⟩
 case round =>
  clear hS4
  obtain ⟨k, hk, rfl, hS⟩ := hrel
  obtain ⟨wo, hwo⟩ : ∃ z, z = wr := ⟨_, rfl⟩
  subst hwo
  by_cases hlt : k < q
  · obtain ⟨gH, hgH⟩ := HAH.out (by omega)
    subst hgH
    have hkp : k < H.length := by rw [HQ.out]; exact hlt
    have hown : wo.ownsRow w.heap.size 50 5 (.slice (some ⟨gH, 0, none⟩) q c3) q (H.flatMap rgnC) := hS.nth 1 rfl
    have a0 := own_cell rgnC 5 rgnC_len hown k 0 hkp hlt (by omega)
    have a1 := own_cell rgnC 5 rgnC_len hown k 1 hkp hlt (by omega)
    have a2 := own_cell rgnC 5 rgnC_len hown k 2 hkp hlt (by omega)
    have a3 := own_cell rgnC 5 rgnC_len hown k 3 hkp hlt (by omega)
    have a4 := own_cell rgnC 5 rgnC_len hown k 4 hkp hlt (by omega)
    have hwz := HSZ.out H[k] (List.getElem_mem hkp)
    have htk : lgF (H.take (k + 1)) = lgS (lgF (H.take k)) H[k] := by rw [List.take_succ_eq_append_getElem hkp, lgF_snoc]
    obtain ⟨⟨id, who, tm, fr, to_⟩, hx⟩ : ∃ x, H[k] = x := ⟨_, rfl⟩
    rw [hx] at a0 a1 a2 a3 a4 hwz htk
    simp only at hwz
    replace a0 : wo.cell? ⟨gH, k * 5, none⟩ = some (.string id) := a0
    replace a1 : wo.cell? ⟨gH, k * 5 + 1, none⟩ = some (.string who) := a1
    replace a2 : wo.cell? ⟨gH, k * 5 + 2, none⟩ = some (.int .i64 tm) := a2
    replace a3 : wo.cell? ⟨gH, k * 5 + 3, none⟩ = some (.int .i64 fr) := a3
    replace a4 : wo.cell? ⟨gH, k * 5 + 4, none⟩ = some (.int .i64 to_) := a4
    have HTK := Lib.hid htk
    have hSE := hS.add #[.string id, .string who, .int .i64 tm, .int .i64 fr, .int .i64 to_] 50
    obtain ⟨WE, hWE⟩ : ∃ W, W = wo.alloc (.cells #[.string id, .string who, .int .i64 tm, .int .i64 fr, .int .i64 to_] 50) := ⟨_, rfl⟩
    obtain ⟨E, hE⟩ : ∃ E, E = wo.heap.size := ⟨_, rfl⟩
    rw [← hWE, ← hE] at hSE
    have hk0 : (0 : Int) ≤ (k : Int) := by omega
    have hk2 : (k : Int) < (q : Int) := by omega
    have HSE := Lib.hid hSE
    clear hS hx hown hkp htk hSE
    go_upto_region 5 with (fail)
    rw [← hWE, ← hE]
    have bE : Blk WE E _ _ := HSE.out.head
    have e1 := bE.cell 1
    have e3 := bE.cell 3
    have e4 := bE.cell 4
    obtain ⟨D1, hD1⟩ : ∃ z, IntKind.i64.wrap (to_ - fr) = z := ⟨_, rfl⟩
    obtain ⟨g0, hg0⟩ : ∃ z, ((lgF (H.take k)) who).getD 0 = z := ⟨_, rfl⟩
    obtain ⟨V, hV⟩ : ∃ z, IntKind.i64.wrap (g0 + D1) = z := ⟨_, rfl⟩
    have lk := lg_look (HSE.out.nth 1 rfl : MapS WE 9 mb k (lgV (lgF (H.take k)))) (s := who) (by unfold maxLen; omega)
    rw [hg0] at lk
    obtain ⟨W6, hput, hS6⟩ := lg_put (HSE.out.front 1 rfl rfl) (by unfold maxLen; omega) (⟨id, who, tm, fr, to_⟩ : Rgn) (by unfold maxLen; show who.size ≤ _; omega) V (by show IntKind.i64.wrap (((lgF (H.take k)) who).getD 0 + IntKind.i64.wrap (to_ - fr)) = V; rw [hg0, hD1]; exact hV)
    simp only at hput
    have HS6 := Lib.hid hS6
    clear bE hS6 hWE hE a0 a1 a2 a3 a4 HSE hg0
    go_wp2_with fail
    have hS7 := HS6.out.drop 1 rfl rfl
    go_roundw
    case rel => exact ⟨k + 1, by omega, by go_num, by rw [HTK.out]; exact hS7⟩
    case measure => simp [intOf]; omega
  · obtain rfl : k = q := by omega
    rw [List.take_of_length_le (by rw [HQ.out]; exact Nat.le_refl _)] at hS
    have hKM := lg_keys H (fun r hr => by have := HSZ.out r hr; unfold maxLen; omega)
    have hPK := lg_pk HBD.out (by rw [HQ.out]; omega) (fun r hr => by have := HSZ.out r hr; unfold maxLen; omega)
    have hkl := lgKs_len H
    rw [HQ.out] at hkl
    have HC := Lib.hid (countsBy_calls mb k (lgF H) (lgKs H) w wo hKM hPK (by omega) HTB.out (hS.drop 1 rfl rfl))
    clear hS hKM hPK
    go_wp2_with fail
    refine HC.out.mono ?_
    rintro e w5 ⟨A9, c9, zs, rfl, h1, h2, h3⟩
    have HF : Hid (RgoR H w (.returned (.slice A9 zs.length c9)) w5) := Lib.hid ⟨A9, c9, zs, rfl, h1, h2, h3⟩
    clear h1 h2 h3 HC
    go_wp2_with fail
    go_ret
    exact HF.out
end Go.Proofs.YtapgnaimbgjcnaaGreatDoor
/-
  Records fall from one to the next one, in plain words. No walk.
-/
namespace Go.Proofs.YtapgnaimbgjcnaaGreatDoor
open Go Go.RowKit
theorem one_his {D : Dsk} {cat : ByteArray} (hK : KD D) {xs ys : List Bev} (h1 : SbdH D cat xs) (h2 : SbdH D cat ys) : xs = ys :=
 one_by ord3_cmpH cmpH_id hK (fun x hx => brd_mem (h1.1.mem_iff.1 hx)) (h1.1.trans h2.1.symm) h1.2 h2.2
theorem hisIs_one {l : List Bev} {cat : ByteArray} {u F : Int} (hE : F = 0 → ∀ x ∈ l, EvK x) {H H2 : List Rgn} (h1 : HisIs l cat u F H) (h2 : HisIs l cat u F H2) : H = H2 := by
 by_cases h0 : F = 0
 · obtain ⟨ys, hy, rfl⟩ := h1.1 h0
   obtain ⟨zs, hz, rfl⟩ := h2.1 h0
   rw [one_his (kd_fol (hE h0) u) hy hz]
 · rw [h1.2 h0, h2.2 h0]
end Go.Proofs.YtapgnaimbgjcnaaGreatDoor

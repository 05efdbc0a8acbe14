/-
  The first elements of a list of structs. No Go text is named here.
-/
import Derived.Test.YtapgnaimbgjcnaaGreatDoorZFlat
import Derived.Test.YtapgnaimbgjcnaaGreatDoorZSrt1
import Derived.Test.YtapgnaimbgjcnaaGreatDoorZHs2
import Derived.Test.YtapgnaimbgjcnaaGreatDoorZMapR
import Derived.Test.YtapgnaimbgjcnaaGreatDoorZSlot1
import Derived.Test.YtapgnaimbgjcnaaGreatDoorZSlot3
import Derived.Test.YtapgnaimbgjcnaaGreatDoorZBid3
import Derived.Deep.DeepCutAuto
import Derived.Test.YtapgnaimbgjcnaaGreatDoorZSortEv
import Derived.Shelf.SlGeneric
import Derived.Shelf.SlSortCmp.WholeK
import Derived.Test.YtapgnaimbgjcnaaGreatDoorProg
import Derived.Test.YtapgnaimbgjcnaaGreatDoorZDk5
import Derived.Test.YtapgnaimbgjcnaaGreatDoorZEv1W
import Derived.Test.YtapgnaimbgjcnaaGreatDoorZTk
import Derived.Deep.RegionHeld3
import Derived.RegionTactic
import Derived.Test.YtapgnaimbgjcnaaGreatDoorZEv11
import Derived.Deep.CutBlock
import Derived.Test.YtapgnaimbgjcnaaGreatDoorZSortMem
import Derived.Deep.QuietTactic
namespace Go.Proofs.YtapgnaimbgjcnaaGreatDoor
open Go Go.RowKit
theorem take_flat {α : Type} (f : α → List Value) (k : Nat) (hf : ∀ a, (f a).length = k) : ∀ (rs : List α) (m : Nat), (rs.take m).flatMap f = (rs.flatMap f).take (m * k)
 | [], m => by simp
 | r :: rs, 0 => by simp
 | r :: rs, m + 1 => by
   simp only [List.take_succ_cons, List.flatMap_cons, take_flat f k hf rs m]
   rw [List.take_append, hf, List.take_of_length_le (l := f r) (by rw [hf, Nat.add_mul]; omega), show (m + 1) * k - k = m * k by rw [Nat.add_mul]; omega]
theorem Rd.takeF {α : Type} {w : World} {b k n c : Nat} {A : Option Addr} {f : α → List Value} {rs : List α} (h : Rd w b k (.slice A n c) n (rs.flatMap f)) (hf : ∀ a, (f a).length = k) (m : Nat) (hm : m ≤ n) :
 Rd w b k (.slice A m c) m ((rs.take m).flatMap f) := by
 obtain ⟨A', c', e1, e2, e3, e4, e5, e6⟩ := h
 injection e1 with ea eb ec
 subst ea ec
 rw [take_flat f k hf]
 refine ⟨A, c, rfl, by omega, e3, by rw [List.length_take, e4]; exact Nat.min_eq_left (Nat.mul_le_mul_right _ hm), fun h => ⟨by have := (e5 h).1; omega, (e5 h).2⟩, fun hn => ?_⟩
 obtain ⟨g, o, f1, f2, f3⟩ := e6 (by omega)
 refine ⟨g, o, f1, f2, fun j u hu => f3 j u ?_⟩
 rw [List.getElem?_take] at hu
 split at hu
 · exact hu
 · cases hu
end Go.Proofs.YtapgnaimbgjcnaaGreatDoor
/-
  slices.SortFunc at elements of one cell behind the first ones of a row: what lies before them stays. No Go text is named here.
-/
namespace Go.Proofs.YtapgnaimbgjcnaaGreatDoor
open Go Go.RowKit Go.Sort
theorem sortO_heap {α : Type} [Inhabited α] (enc : α → Value) (w : World) (blk off m : Nat) (dk : Array α) (os : Array Obj) (i : Nat) (hi : i < w.heap.size) :
 (sortWorld enc w blk off m dk os).heap[i]? = (mapBlock w blk (putCells enc off dk)).heap[i]? := by
 have e : (sortWorld enc w blk off m dk os).heap = (mapBlock w blk (putCells enc off dk)).heap ++ os := rfl
 rw [e, Array.getElem?_append_left (by rw [mapBlock_size]; exact hi)]
theorem sortO_grown {α : Type} [Inhabited α] (enc : α → Value) (w : World) (blk off m : Nat) (dk : Array α) (os : Array Obj) : w.grownBy (sortWorld enc w blk off m dk os) (some blk) := by
 refine ⟨rfl, rfl, rfl, ?_, fun i hi hn => ?_⟩
 · have e : (sortWorld enc w blk off m dk os).heap = (mapBlock w blk (putCells enc off dk)).heap ++ os := rfl
   rw [e, Array.size_append, mapBlock_size]
   omega
 · rw [sortO_heap enc w blk off m dk os i hi, mapBlock_heap _ _ _ _ (fun e => hn (by rw [e]))]
theorem sortO_but {α : Type} [Inhabited α] (enc : α → Value) (w : World) (blk off m : Nat) (dk : Array α) (os : Array Obj) : ButG blk w (sortWorld enc w blk off m dk os) :=
 ⟨(sortO_grown enc w blk off m dk os).size, fun i hi hn => (sortO_grown enc w blk off m dk os).block i hi (fun e => hn (Option.some.inj e))⟩
section
variable {α : Type} {P : α → Prop} [Inhabited {x : α // P x}] {enc : α → Value}
end
end Go.Proofs.YtapgnaimbgjcnaaGreatDoor
/-
  board.History, board.Gained and splitref2.GainedOf by contracts. (Printed by gen_hs6.py.)
-/
namespace Go.Proofs.YtapgnaimbgjcnaaGreatDoor
open Go Go.RowKit
attribute [local go_sem ↓] Go.wp_at_zero Go.wp_at_succ
def HisIs (l : List Bev) (cat : ByteArray) (u F : Int) (H : List Rgn) : Prop := (F = 0 → ∃ ys, SbdH (folE l u).1 cat ys ∧ H = hisF u ys) ∧ (F ≠ 0 → H = [])
theorem hisIs_no {l : List Bev} {cat : ByteArray} {u F : Int} (h : F ≠ 0) : HisIs l cat u F [] := ⟨fun h2 => absurd h2 h, fun _ => rfl⟩
theorem hisIs_ok {l : List Bev} {cat : ByteArray} {u : Int} {ys : List Bev} (h : SbdH (folE l u).1 cat ys) : HisIs l cat u 0 (hisF u ys) := ⟨fun _ => ⟨ys, h, rfl⟩, fun h => absurd rfl h⟩
def HsyR (l : List Bev) (cat : ByteArray) (u F : Int) (w : World) (e : Ending) (w' : World) : Prop :=
 ∃ (A : Option Addr) (c : Nat) (H : List Rgn), HisIs l cat u F H ∧ e = .returned (.tuple #[.slice A H.length c, .int .i64 F]) ∧ Sq w w' [rOwn w.heap.size 50 5 (.slice A H.length c) H.length (H.flatMap rgnC)]
def gnV (H : List Rgn) : Int := match H.head?, H.getLast? with
 | some a, some b => IntKind.i64.wrap (a.time - b.time)
 | _, _ => 0
def gnB (H : List Rgn) : Bool := !H.isEmpty
theorem gn_at {H : List Rgn} {j : Nat} (hj : H.length = j + 1) : gnV H = IntKind.i64.wrap ((H[0]'(by omega)).time - (H[j]'(by omega)).time) ∧ gnB H = true := by
 cases H with
 | nil => simp at hj
 | cons a t =>
   have hl : (a :: t).getLast? = some ((a :: t)[j]'(by omega)) := by
    have hjj : (a :: t).length - 1 = j := by omega
    subst hjj
    rw [List.getLast?_eq_getElem?, List.getElem?_eq_getElem (by omega)]
   refine ⟨?_, rfl⟩
   unfold gnV
   rw [hl]
   rfl
def GndR (l : List Bev) (cat : ByteArray) (u F : Int) (w : World) (e : Ending) (w' : World) : Prop :=
 ∃ H : List Rgn, HisIs l cat u F H ∧ e = .returned (.tuple #[.int .i64 (gnV H), .bool (gnB H), .int .i64 F]) ∧ Below w.heap.size w w'
set_option maxRecDepth 100000 in
set_option maxHeartbeats 4000000 in
theorem hist_calls (b : Nat) (A : Option Addr) (n c : Nat) (l : List Bev) (u : Int) (cat : ByteArray) (w : World) (hb : b < w.heap.size) (hr : Bevs w b A n c l) (hn : n ≤ 3000) (hc : cat.size ≤ 1000000) :
 Calls Tryz.prog 12 #[.slice A n c, .string cat, .int .i64 u] w (HsyR l cat u (catF l [cat] u) w) := by
 have hS0 := (Sq.start w).add #[.string cat] 9
 have hrl := blkRd (b := b) 1 1 (hS0.head : Blk _ w.heap.size _ _) (by omega) (by unfold maxLen; omega) rfl
 have HC := Lib.hid (categoryFault_calls b A (some ⟨w.heap.size, 0, none⟩) n c 1 1 l [cat] u _ (hr.below hS0.below) hrl (by intro s hs; simp at hs; subst hs; exact hc))
 have HS0 := Lib.hid hS0
 have HR := Lib.hid hr.rd
 obtain ⟨F, hF⟩ : ∃ F, catF l [cat] u = F := ⟨_, rfl⟩
 rw [hF] at HC ⊢
 have HE : Hid (F = 0 → ∀ x ∈ l, EvK x) := Lib.hid (fun h => evK_all (catF_ok (hF.trans h)))
 clear hr hS0 hrl hc hF
 by_cases h0 : F = 0
 · subst h0
   have HE0 := Lib.hid (HE.out rfl)
   clear HE
   go_enter Tryz.func12, Tryz.ntmps12
   go_wp2_with fail
   refine HC.out.mono ?_
   rintro e w1 ⟨rfl, hb1⟩
   have hS1 := HS0.out.callB hb1
   have HRA := Lib.hid (history_calls b A n c l u cat w1 (hS1.rd HR.out) HE0.out hn)
   have HS1 := Lib.hid hS1.bare
   clear hS1 hb1 HC HS0
   go_wp2_with fail
   refine HRA.out.mono ?_
   rintro e w3 ⟨A3, c3, ys, hY, rfl, hS3⟩
   have HF : Hid (HsyR l cat u 0 w (.returned (.tuple #[.slice A3 (hisF u ys).length c3, .int .i64 0])) w3) := Lib.hid ⟨A3, c3, hisF u ys, hisIs_ok hY, rfl, (HS1.out.merge hS3).rebase HS1.out.size⟩
   obtain ⟨q, hq⟩ : ∃ q, (hisF u ys).length = q := ⟨_, rfl⟩
   rw [hq] at HF ⊢
   clear hS3 hY hq HRA HS1
   go_wp2_with fail
   go_ret2
   exact HF.out
 · have hne : (F != 0) = true := by rw [bne_iff_ne]; exact h0
   go_enter Tryz.func12, Tryz.ntmps12
   go_wp2_with fail
   refine HC.out.mono ?_
   rintro e w1 ⟨rfl, hb1⟩
   have HF : Hid (HsyR l cat u F w (.returned (.tuple #[.slice none 0 0, .int .i64 F])) w1) := Lib.hid ⟨none, 0, [], hisIs_no h0, rfl, ((HS0.out.callB hb1).bare).nil _ _ _⟩
   clear HC HS0 hb1
   go_wp2_with fail
   go_ret2
   exact HF.out
set_option maxRecDepth 100000 in
set_option maxHeartbeats 4000000 in
theorem gained_calls (b : Nat) (A : Option Addr) (n c : Nat) (l : List Bev) (u : Int) (cat : ByteArray) (w : World) (hb : b < w.heap.size) (hr : Bevs w b A n c l) (hn : n ≤ 3000) (hc : cat.size ≤ 1000000) :
 Calls Tryz.prog 14 #[.slice A n c, .string cat, .int .i64 u] w (GndR l cat u (catF l [cat] u) w) := by
 have hS0 := (Sq.start w).add #[.string cat] 9
 have hrl := blkRd (b := b) 1 1 (hS0.head : Blk _ w.heap.size _ _) (by omega) (by unfold maxLen; omega) rfl
 have HC := Lib.hid (categoryFault_calls b A (some ⟨w.heap.size, 0, none⟩) n c 1 1 l [cat] u _ (hr.below hS0.below) hrl (by intro s hs; simp at hs; subst hs; exact hc))
 have HS0 := Lib.hid hS0
 have HR := Lib.hid hr.rd
 obtain ⟨F, hF⟩ : ∃ F, catF l [cat] u = F := ⟨_, rfl⟩
 rw [hF] at HC ⊢
 have HE : Hid (F = 0 → ∀ x ∈ l, EvK x) := Lib.hid (fun h => evK_all (catF_ok (hF.trans h)))
 clear hr hS0 hrl hc hF
 by_cases h0 : F = 0
 · subst h0
   have HE0 := Lib.hid (HE.out rfl)
   clear HE
   go_enter Tryz.func14, Tryz.ntmps14
   go_wp2_with fail
   refine HC.out.mono ?_
   rintro e w1 ⟨rfl, hb1⟩
   have hS1 := HS0.out.callB hb1
   have HRA := Lib.hid (history_calls b A n c l u cat w1 (hS1.rd HR.out) HE0.out hn)
   have HS1 := Lib.hid hS1.bare
   clear hS1 hb1 HC HS0
   go_wp2_with fail
   refine HRA.out.mono ?_
   rintro e w3 ⟨A3, c3, ys, hY, rfl, hS3⟩
   obtain ⟨H, hH⟩ : ∃ H, hisF u ys = H := ⟨_, rfl⟩
   have HIS : Hid (HisIs l cat u 0 H) := Lib.hid (by rw [← hH]; exact hisIs_ok hY)
   rw [hH] at hS3 ⊢
   have HB3 := Lib.hid (below_call HS1.out.below hS3.below (Nat.le_refl _))
   clear hY hH HRA HS1
   have HQZ : Hid (H.length ≤ maxLen) := Lib.hid (by
    have h1 := own_cap (hS3.head : World.ownsRow _ _ _ _ _ _ _)
    omega)
   rcases Nat.eq_zero_or_pos H.length with h0 | h0
   · have hn0 := List.length_eq_zero_iff.1 h0
     subst hn0
     clear hS3 h0
     go_wp2_with fail
     go_ret3
     exact ⟨[], HIS.out, rfl, HB3.out⟩
   · obtain ⟨j, hj⟩ : ∃ j, H.length = j + 1 := ⟨H.length - 1, by omega⟩
     obtain ⟨g, hg⟩ := own_ptr (hS3.head : World.ownsRow _ _ _ _ _ _ _) h0
     subst hg
     have hown : w3.ownsRow w1.heap.size 50 5 (.slice (some ⟨g, 0, none⟩) H.length c3) H.length (H.flatMap rgnC) := hS3.head
     have c0 := own_cell rgnC 5 rgnC_len hown 0 2 (by omega) (by omega) (by omega)
     have c1 := own_cell rgnC 5 rgnC_len hown j 2 (by omega) (by omega) (by omega)
     obtain ⟨gv, gb⟩ := gn_at (H := H) (j := j) (by exact hj)
     obtain ⟨⟨i0, w0, t0, f0, o0⟩, hx⟩ : ∃ x, H[0]'(by omega) = x := ⟨_, rfl⟩
     obtain ⟨⟨i1, w1, t1, f1, o1⟩, hy⟩ : ∃ x, H[j]'(by omega) = x := ⟨_, rfl⟩
     rw [hx] at c0 gv
     rw [hy] at c1 gv
     simp only at gv
     replace c0 : w3.cell? ⟨g, 2, none⟩ = some (.int .i64 t0) := c0
     replace c1 : w3.cell? ⟨g, j * 5 + 2, none⟩ = some (.int .i64 t1) := c1
     obtain ⟨GV, hGV⟩ : ∃ z, IntKind.i64.wrap (t0 - t1) = z := ⟨_, rfl⟩
     rw [hGV] at gv
     obtain ⟨q, hq⟩ : ∃ q, H.length = q := ⟨_, rfl⟩
     rw [hq] at hj ⊢
     have hq1 : (q : Int) - 1 = (j : Int) := by omega
     have hq2 : ¬ (q : Int) = 0 := by omega
     have hqb : ((q : Int) == 0) = false := by simp; omega
     have hj0 : (0 : Int) ≤ (j : Int) := by omega
     have hjq : (j : Int) < (q : Int) := by omega
     have hq0 : (0 : Int) < (q : Int) := by omega
     have hw3 : IntKind.i64.wrap (j : Int) = (j : Int) := by
      have hz := HQZ.out
      unfold maxLen at hz
      exact IntWalk.i64_in _ (by omega)
     have GVH := Lib.hid gv
     have GBH := Lib.hid gb
     have HQB := Lib.hid HB3.out
     clear hown hx hy gv gb hq hj hS3 HQZ
     go_wp2_with fail
     go_quiet (fail)
     go_wp2_with fail
     go_ret3
     exact ⟨H, HIS.out, by rw [GVH.out, GBH.out]; rfl, below_drewN HB3.out _⟩
 · have hne : (F != 0) = true := by rw [bne_iff_ne]; exact h0
   go_enter Tryz.func14, Tryz.ntmps14
   go_wp2_with fail
   refine HC.out.mono ?_
   rintro e w1 ⟨rfl, hb1⟩
   have HF : Hid (GndR l cat u F w (.returned (.tuple #[.int .i64 0, .bool false, .int .i64 F])) w1) := Lib.hid ⟨[], hisIs_no h0, rfl, (HS0.out.callB hb1).below⟩
   clear HC HS0 hb1
   go_wp2_with fail
   go_ret3
   exact HF.out
end Go.Proofs.YtapgnaimbgjcnaaGreatDoor

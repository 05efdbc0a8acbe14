/-
  Numbers that are written with blanks between: splitref2.Numbers by its contract.
-/
import Derived.Test.YtmbeclcdpagjiaaGreatDoorZTxt2
import Derived.Test.YtmbeclcdpagjiaaGreatDoorZSjoin
import Derived.Test.YtmbeclcdpagjiaaGreatDoorZSlotPure
import Derived.Test.YtmbeclcdpagjiaaGreatDoorZSlot4
import Derived.Lib.ItoaLen
import Derived.Lib.JoinLaws
namespace Go.Proofs.YtmbeclcdpagjiaaGreatDoor
open Go Go.RowKit TxtP

theorem ints_cellsN {w : World} {b n c : Nat} {A : Option Addr} {hs : List Int} (h : Rd w b 1 (.slice A n c) n (hs.map (Value.int .i64))) :
    hs.length = n ∧ n ≤ c ∧ c ≤ maxLen ∧ (0 < n → ∃ g o, A = some ⟨g, o, none⟩ ∧ g ≠ b ∧ ∀ i (hi : i < hs.length), w.cell? ⟨g, o + i, none⟩ = some (.int .i64 hs[i])) := by
  obtain ⟨A', c', e1, e2, e3, e4, e5, e6⟩ := h
  injection e1 with ea eb ec
  subst ea ec
  refine ⟨by simpa using e4, e2, e3, fun hn => ?_⟩
  obtain ⟨g, o, f1, f2, f3⟩ := e6 hn
  refine ⟨g, o, f1, f2, fun i hi => f3 i _ ?_⟩
  rw [List.getElem?_map, List.getElem?_eq_getElem hi]
  rfl
theorem flat_one {α β : Type} (f : α → β) : ∀ l : List α, l.flatMap (fun x => [f x]) = l.map f
  | [] => rfl
  | a :: t => by rw [List.flatMap_cons, flat_one f t]; rfl
def numsB (zs : List Int) : List ByteArray := zs.map (fun z => ⟨(Lib.itoa z).toArray⟩)
theorem numsB_data (zs : List Int) : (numsB zs).map (·.data.toList) = zs.map Lib.itoa := by
  unfold numsB
  rw [List.map_map]
  rfl
def joinN (zs : List Int) : ByteArray := ⟨(Lib.join (zs.map Lib.itoa) [32]).toArray⟩
theorem joinN_one (z : Int) : joinN [z] = ⟨(Lib.itoa z).toArray⟩ := by
  unfold joinN
  rw [List.map_cons, List.map_nil, Lib.join_one]
theorem join_len (sep : List UInt8) : ∀ xs : List (List UInt8), (∀ x ∈ xs, x.length ≤ 21) → (Lib.join xs sep).length ≤ xs.length * (21 + sep.length)
  | [], _ => by rw [Lib.join_nil]; exact Nat.zero_le _
  | x :: r, h => by
    rw [Lib.join_cons]
    have h1 : ∀ ys : List (List UInt8), (∀ y ∈ ys, y.length ≤ 21) → (Lib.joinTail sep ys).length ≤ ys.length * (21 + sep.length) := by
      intro ys
      induction ys with
      | nil => intro _; simp [Lib.joinTail]
      | cons y t ih =>
        intro hy
        have h2 := ih (fun z hz => hy z (List.mem_cons_of_mem _ hz))
        have h3 := hy y (List.mem_cons_self ..)
        unfold Lib.joinTail at h2 ⊢
        rw [List.map_cons, List.flatten_cons, List.length_append, List.length_append, List.length_cons, Nat.add_mul]
        omega
    have h2 := h1 r (fun z hz => h z (List.mem_cons_of_mem _ hz))
    have h3 := h x (List.mem_cons_self ..)
    rw [List.length_append, List.length_cons, Nat.add_mul]
    omega
set_option maxRecDepth 100000 in
set_option maxHeartbeats 2000000 in
theorem numbers_calls (b : Nat) (A : Option Addr) (n c : Nat) (zs : List Int) (w : World) (hr : Rd w b 1 (.slice A n c) n (zs.map (Value.int .i64))) (hz : ∀ z ∈ zs, -9223372036854775808 ≤ z ∧ z ≤ 9223372036854775807) (ht : Tab w) (h0 : 0 < n) (hn : n ≤ 100) :
    Calls Tryz.prog 52 #[.slice A n c] w (BRet (.string (joinN zs)) w) := by
  obtain ⟨hl, hnc, hcm, hcells⟩ := ints_cellsN hr
  obtain ⟨g, o, hA, _, hcs⟩ := hcells h0
  subst hA
  obtain ⟨j0, hj, hy0, hy1, hy2⟩ := info_parts info_str
  have HL := Lib.hid hl
  have HCS := Lib.hid hcs
  have HZ := Lib.hid hz
  have hS0 := (Sq.start w).nil w.heap.size 9 1
  have HJ : Hid (∀ W A c, W.ownsRow w.heap.size 9 1 (.slice A n c) n (strsV (numsB zs)) → Calls Tryz.prog 81 #[.slice A n c, .string ⟨#[32]⟩] W (fun e w' => e = .returned (.string (joinN zs)) ∧ Below W.heap.size W w')) := by
    refine Lib.hid (fun W A c ho => ?_)
    have hnl : (numsB zs).length = n := by unfold numsB; rw [List.length_map, hl]
    obtain ⟨bk, cap, hv, hbk1, hbk2⟩ := ho.form h0
    have hA : A = some ⟨bk, 0, none⟩ := by injection hv
    subst hA
    have hcap := own_cap ho
    have hcells : ∀ (j : Nat) x, (numsB zs)[j]? = some x → W.cell? ⟨bk, 0 + j, none⟩ = some (.string x) := by
      intro j x hx
      have hjl : j < (numsB zs).length := (List.getElem?_eq_some_iff.1 hx).1
      have := own_cell (fun x : ByteArray => [Value.string x]) 1 (fun _ => rfl) (rs := numsB zs) (by rw [show (numsB zs).flatMap (fun x : ByteArray => [Value.string x]) = strsV (numsB zs) from flat_one _ _]; exact ho) j 0 hjl (by omega) (by omega)
      rw [Nat.mul_one, Nat.add_zero] at this
      rw [Nat.zero_add, this]
      rw [List.getElem?_eq_getElem hjl] at hx
      rw [Option.some.inj hx]
      rfl
    have hlen : (Lib.join ((numsB zs).map (·.data.toList)) [32]).length ≤ 140737488355328 := by
      rw [numsB_data]
      have := join_len [32] (zs.map Lib.itoa) (fun x hx => by
        obtain ⟨z, hz1, rfl⟩ := List.mem_map.1 hx
        exact Lib.itoa_length_le z (hz z hz1).1 (hz z hz1).2)
      rw [List.length_map, hl] at this
      simp at this
      omega
    have := Tryz.strings_Join bk 0 c (numsB zs) ⟨#[32]⟩ W hcells hbk2 (by rw [hnl]; omega) (by rw [hnl]; exact hcap.1) hlen
    rw [hnl] at this
    refine this.mono ?_
    rintro e w' ⟨rfl, hb⟩
    refine ⟨?_, hb⟩
    rw [numsB_data]
    rfl
  clear hr hl hcells hcs hz
  go_enter Tryz.func52, Tryz.ntmps52
  go_wp2_with fail
  go_loopw [3, 8] (fun v i wr => ∃ (k : Nat) (A1 : Option Addr) (c1 : Nat), k ≤ n ∧ i = .int .i64 k ∧ v = .slice A1 k c1 ∧ Sq w wr [rOwn w.heap.size 9 1 (.slice A1 k c1) k (strsV (numsB (zs.take k)))]) (fun _ i _ => n - (intOf i).toNat)
  case atStart => exact ⟨0, none, 0, Nat.zero_le _, rfl, rfl, hS0⟩
  case round =>
    clear hS0
    obtain ⟨k, A1, c1, hk, rfl, rfl, hS⟩ := hrel
    by_cases hlt : k < n
    · have hkz : k < zs.length := by rw [HL.out]; exact hlt
      have c0 := below_cell hS.below (HCS.out k hkz)
      have hzk := HZ.out _ (List.getElem_mem hkz)
      have HI : Hid (numsB (zs.take (k + 1)) = numsB (zs.take k) ++ [⟨(Lib.itoa zs[k]).toArray⟩]) := by
        refine Lib.hid ?_
        rw [List.take_succ_eq_append_getElem hkz]
        unfold numsB
        rw [List.map_append]
        rfl
      obtain ⟨z, hzv⟩ : ∃ z, z = zs[k] := ⟨_, rfl⟩
      rw [← hzv] at c0 hzk HI
      have HIT := Lib.hid (fun V (h : Tab V) => itoa_calls z hzk.1 hzk.2 V h)
      obtain ⟨x, hx⟩ : ∃ x : ByteArray, x = ⟨(Lib.itoa z).toArray⟩ := ⟨_, rfl⟩
      rw [← hx] at HIT HI
      have htw := ht.below hS.below
      clear hx hzv
      go_wp2_with (first
        | (go_at_call 49; refine (HIT.out _ htw).mono ?_; rintro e w2 ⟨rfl, hb2⟩; have hS2 := hS.callB hb2; have HO := hS2.head; have hz2 := hS2.size)
        | (at_builtin; refine wpList_append_own_at _ rfl _ _ 32 rfl w.heap.size 9 j0 (.string ⟨#[]⟩) 1 16 Tryz.underlying32 hj hy0 hy1 hy2 rfl (by decide) _ _ _ rfl (HO.alloc _) ⟨w2.heap.size, 0, none⟩ 1 1 [.string x] rfl rfl (World.news_of_block (heap_alloc_new _ _)) (one1 rfl) (by unfold maxLen; omega) (by omega) (by simp; omega) ?_; intro v' w8 hown' hgrow _ hblk; have hS8 := (hS2.alloc _).append hown' hgrow hblk; obtain ⟨A8, c8, hv8⟩ := own_form hown'; subst hv8; clear hown' hgrow hblk HO))
      have hS9 : Sq w w8 [rOwn w.heap.size 9 1 (.slice A8 (k + 1) c8) (k + 1) (strsV (numsB (zs.take (k + 1))))] := by
        rw [HI.out]
        have e : strsV (numsB (zs.take k) ++ [x]) = strsV (numsB (zs.take k)) ++ [.string x] := by simp [strsV]
        rw [e]
        exact hS8
      go_roundw
      case rel => exact ⟨k + 1, A8, c8, by omega, by go_num, rfl, hS9⟩
      case measure => simp [intOf]; omega
    · obtain rfl : k = n := by omega
      have ho : wr.ownsRow w.heap.size 9 1 (.slice A1 k c1) k (strsV (numsB zs)) := by
        have := hS.head
        rw [List.take_of_length_le (by rw [HL.out]; exact Nat.le_refl _)] at this
        exact this
      have HJ2 := Lib.hid (HJ.out wr A1 c1 ho)
      clear ho HJ
      go_wp2_with (first | (go_at_call 81; refine HJ2.out.mono ?_; rintro e w2 ⟨rfl, hb2⟩))
      go_ret
      exact ⟨rfl, below_call hS.below hb2 (Nat.le_refl _)⟩
end Go.Proofs.YtmbeclcdpagjiaaGreatDoor

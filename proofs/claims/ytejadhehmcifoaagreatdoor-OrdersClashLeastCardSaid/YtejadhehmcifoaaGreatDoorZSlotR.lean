/-
  RightSlots once more: its slots are right. (Printed by gen_slotr.py.)
-/
import Derived.Test.YtejadhehmcifoaaGreatDoorZSlot12
namespace Go.Proofs.YtejadhehmcifoaaGreatDoor
open Go Go.RowKit
attribute [local go_sem ↓] Go.wp_at_zero Go.wp_at_succ

def keys5 : List ByteArray := [⟨#[115, 99]⟩, ⟨#[115, 97]⟩, ⟨#[115, 100]⟩, ⟨#[115, 98]⟩, ⟨#[115, 101]⟩]
def hosts3 : List ByteArray := [⟨#[97, 110, 110]⟩, ⟨#[104, 97, 108]⟩, ⟨#[106, 111, 101]⟩]
def whos3 : List ByteArray := [⟨#[97, 110, 110]⟩, ⟨#[98, 101, 97]⟩, ⟨#[99, 105, 100]⟩]
theorem lit_get {cs : Array Value} (ss : List ByteArray) (hc : cs = (ss.map Value.string).toArray) {k : Nat} {s : ByteArray} (h : cs[k]? = some (.string s)) : ss[k]? = some s := by
  subst hc
  simp at h
  exact h
theorem lit_mem {cs : Array Value} (ss : List ByteArray) (hc : cs = (ss.map Value.string).toArray) {s : ByteArray} (h : Value.string s ∈ cs.toList) : s ∈ ss := by
  subst hc
  simp at h
  exact h
structure RSlt (x : Slt) : Prop where
  who : x.who ∈ whos3
  hosts : x.hosts.Sublist hosts3
  no : memS x.hosts x.who = false
  setup : 0 ≤ x.setup ∧ x.setup ≤ 20
  long : 50 ≤ x.long ∧ x.long ≤ 200
structure RSl (k : Nat) (xs : List Slt) : Prop where
  all : ∀ x ∈ xs, RSlt x
  sub : (xs.map (·.key)).Sublist (keys5.take k)
theorem RSl.nil : RSl 0 [] := ⟨(by intro x hx; cases hx), List.Sublist.refl _⟩
theorem RSl.snoc {k : Nat} {xs : List Slt} {s z : ByteArray} {ha : Option Addr} {hc : Nat} {hh : List ByteArray} {p q : Int} (h : RSl k xs) (hs : keys5[k]? = some s) (hx : RSlt ⟨s, z, ha, hc, hh, p, q⟩) : RSl (k + 1) (xs ++ [⟨s, z, ha, hc, hh, p, q⟩]) := by
  refine ⟨fun x hx' => ?_, ?_⟩
  · rcases List.mem_append.1 hx' with hx' | hx'
    · exact h.all x hx'
    · simp at hx'; subst hx'; exact hx
  · rw [List.take_add_one, hs, List.map_append]
    exact h.sub.append (List.Sublist.refl _)
theorem RSl.skip {k : Nat} {xs : List Slt} {s : ByteArray} (h : RSl k xs) (hs : keys5[k]? = some s) : RSl (k + 1) xs :=
  ⟨h.all, by rw [List.take_add_one, hs]; exact h.sub.trans (List.sublist_append_left _ _)⟩
theorem eqS_sym {a b : ByteArray} (h : eqS a b = false) : eqS b a = false := by
  unfold eqS at h ⊢
  rw [beq_eq_false_iff_ne] at h ⊢
  exact fun e => h e.symm
theorem memS_snoc {hh : List ByteArray} {h z : ByteArray} (h1 : memS hh z = false) (h2 : (h.toList == z.toList) = false) : memS (hh ++ [h]) z = false := by
  have h3 : eqS z h = false := eqS_sym (a := h) (b := z) h2
  unfold memS at h1 ⊢
  rw [List.any_append, h1]
  simp [h3]
/-- right slots -/
structure RSlots (xs : List Slt) : Prop where
  all : ∀ x ∈ xs, RSlt x
  sub : (xs.map (·.key)).Sublist keys5
theorem RSl.right {k : Nat} {xs : List Slt} (h : RSl k xs) (_hk : k ≤ 5) : RSlots xs := ⟨h.all, h.sub.trans (List.take_sublist _ _)⟩
theorem riseG_sub : ∀ (l : List ByteArray) (last : ByteArray), (∀ s ∈ l, keyB s.data.toList = true ∧ leS s last = false) → l.Pairwise (fun a b => leS b a = false) → riseG last l = 0
  | [], _, _, _ => rfl
  | s :: l, last, h, hp => by
    obtain ⟨h1, h2⟩ := h s (List.mem_cons_self ..)
    rw [List.pairwise_cons] at hp
    rw [riseG, if_neg (by rw [h1]; simp), if_neg (by rw [h2]; simp)]
    exact riseG_sub l s (fun x hx => ⟨(h x (List.mem_cons_of_mem _ hx)).1, hp.1 _ hx⟩) hp.2
theorem hosts3_key : ∀ s ∈ hosts3, keyB s.data.toList = true ∧ leS s ⟨#[]⟩ = false := by decide +kernel
theorem hosts3_pw : hosts3.Pairwise (fun a b => leS b a = false) := by decide +kernel
theorem whos3_key : ∀ s ∈ whos3, keyB s.data.toList = true := by decide +kernel
theorem keys5_key : ∀ s ∈ keys5, keyB s.data.toList = true := by decide +kernel
theorem keys5_pw : keys5.Pairwise (fun a b => eqS a b = false) := by decide +kernel
theorem RSlt.fault {x : Slt} (h : RSlt x) : slotF x = 0 := by
  have hl := h.hosts.length_le
  have h3 : hosts3.length = 3 := rfl
  have hr : riseF x.hosts = 0 := riseG_sub _ _ (fun s hs => hosts3_key s (h.hosts.subset hs)) (hosts3_pw.sublist h.hosts)
  have hs := h.setup
  have ho := h.long
  have o1 : outB x.setup 0 86400000 = false := by unfold outB; simp; omega
  have o2 : outB x.long 1 86400000 = false := by unfold outB; simp; omega
  unfold slotF
  rw [if_neg (by omega), if_pos hr, h.no, if_neg (by simp), o1, o2, if_neg (by simp)]
theorem slotsG_sub : ∀ (xs pre : List Slt), (∀ x ∈ xs, RSlt x ∧ keyB x.key.data.toList = true) → ((pre ++ xs).map (·.key)).Pairwise (fun a b => eqS a b = false) → slotsG pre xs = 0
  | [], _, _, _ => rfl
  | x :: xs, pre, h, hp => by
    obtain ⟨h1, h2⟩ := h x (List.mem_cons_self ..)
    have hf : findL pre x.key = -1 := by
      refine ixOf_no _ _ (fun i hi => ?_)
      rw [List.map_append, List.pairwise_append] at hp
      exact hp.2.2 _ (List.mem_map_of_mem (List.getElem_mem hi)) _ (List.mem_cons_self ..)
    rw [slotsG, if_neg (by rw [h2, whos3_key _ h1.who]; simp), if_neg (by rw [hf]; omega), if_pos h1.fault]
    refine slotsG_sub xs (pre ++ [x]) (fun y hy => h y (List.mem_cons_of_mem _ hy)) ?_
    rw [List.append_assoc]
    exact hp
theorem RSlots.fault {xs : List Slt} (h : RSlots xs) : slotsF xs = 0 := by
  have hl := h.sub.length_le
  have h5 : keys5.length = 5 := rfl
  rw [List.length_map] at hl
  unfold slotsF
  rw [if_neg (by omega)]
  refine slotsG_sub xs [] (fun x hx => ⟨h.all x hx, ?_⟩) (keys5_pw.sublist h.sub)
  exact keys5_key _ (h.sub.subset (List.mem_map_of_mem hx))
def SlotsR (b K m h : Nat) (w : World) (e : Ending) (w' : World) : Prop :=
  ∃ (v : Value) (xs : List Slt), e = .returned v ∧ xs.length ≤ m ∧ SltZs h xs ∧ RSlots xs ∧ Sp w b K w' [rOwn w.heap.size 47 5 v xs.length (xs.flatMap sltC), rAll (hostR w.heap.size) xs]
def IsStrOf (cs : Array Value) (v : Value) : Prop := ∃ z : ByteArray, v = .string z ∧ z.size ≤ 1000 ∧ Value.string z ∈ cs.toList
theorem sp_someOfL {w W : World} {b K : Nat} {l : List Rsc} (h : Sp w b K W l) (cs : Array Value) (t : TypeId) (n : Nat) (h0 : 0 < n) (hn : n ≤ maxLen) (hs : cs.size = n) (hx : ∀ x ∈ cs.toList, ∃ z, x = .string z ∧ z.size ≤ 1000) (hK : K ≤ 10000000) :
    Calls Tryz.prog 28 #[.pointer (some ⟨b, 0, none⟩), .slice (some ⟨W.heap.size, 0, none⟩) n n] (W.alloc (.cells cs t)) (SpS (IsStrOf cs) w b (K + 1) l) := by
  have h1 := h.add cs t
  refine (some_calls b K _ n n cs.toList _ h0 (blkRd 1 n (h1.nth 0 rfl) (h1.ne 0 rfl) hn (by omega)) (fun x hx' => by obtain ⟨z, hz, _⟩ := hx x hx'; exact ⟨z, hz⟩) h1.strm hK).mono ?_
  rintro e w' ⟨v, he, h2, hs2, hb⟩
  obtain ⟨z, hz, hz2⟩ := hx v h2
  subst hz
  exact ⟨_, he, ⟨z, rfl, hz2, h2⟩, (h1.call hs2 hb).tail⟩

set_option maxRecDepth 100000 in
set_option maxHeartbeats 2000000 in
theorem rightSlotsR_calls (b K m : Nat) (w : World) (hs : Strm w b K) (hK : K ≤ 900000) (hm : m ≤ 5) :
    Calls Tryz.prog 9 #[.pointer (some ⟨b, 0, none⟩), .int .i64 m] w (SlotsR b (K + 35) m 3 w) := by
  obtain ⟨i0, hi, hz0, hz1, hz2⟩ := info_parts info_slt
  obtain ⟨j0, hj, hy0, hy1, hy2⟩ := info_parts info_str
  have hS0 := ((((Sp.start hs).add #[.string ⟨#[115, 99]⟩, .string ⟨#[115, 97]⟩, .string ⟨#[115, 100]⟩, .string ⟨#[115, 98]⟩, .string ⟨#[115, 101]⟩] 9).allNil (hostR w.heap.size) (hostR_ok _)).nil w.heap.size 47 5)
  have hm0 : (0 : Int) ≤ (m : Int) := by omega
  have hm5 : (m : Int) ≤ 5 := by omega
  go_enter Tryz.func9, Tryz.ntmps9
  go_wp2_with fail
  go_loopw [5, 15] (fun v i wr => ∃ (k : Nat) (xs : List Slt), k ≤ m ∧ i = .int .i64 k ∧ xs.length ≤ k ∧ SltZs 3 xs ∧ Hid (RSl k xs) ∧ Sp w b (K + 7 * k) wr [rOwn w.heap.size 47 5 v xs.length (xs.flatMap sltC), rAll (hostR w.heap.size) xs, rBlk w.heap.size 9 #[.string ⟨#[115, 99]⟩, .string ⟨#[115, 97]⟩, .string ⟨#[115, 100]⟩, .string ⟨#[115, 98]⟩, .string ⟨#[115, 101]⟩]]) (fun _ i _ => m - (intOf i).toNat)
  case atStart => exact ⟨0, [], Nat.zero_le _, rfl, Nat.le_refl _, (by intro x hx; cases hx), Lib.hid RSl.nil, hS0⟩
  case round =>
    clear hS0
    obtain ⟨k, xs, hk, rfl, hxk, hz, HR, hS⟩ := hrel
    obtain ⟨wo, hwo⟩ : ∃ wo : World, wo = wr := ⟨_, rfl⟩
    subst hwo
    by_cases hlt : k < m
    · obtain ⟨s, hcs, hss⟩ := strLit_at (cs := #[.string ⟨#[115, 99]⟩, .string ⟨#[115, 97]⟩, .string ⟨#[115, 100]⟩, .string ⟨#[115, 98]⟩, .string ⟨#[115, 101]⟩]) rfl k (by simp; omega)
      have HSN : Hid (keys5[k]? = some s) := lit_get keys5 rfl hcs
      have hb5 : Blk wo w.heap.size 9 #[.string ⟨#[115, 99]⟩, .string ⟨#[115, 97]⟩, .string ⟨#[115, 100]⟩, .string ⟨#[115, 98]⟩, .string ⟨#[115, 101]⟩] := hS.nth 2 rfl
      have c0 := (hb5.cell k).trans hcs
      have hk0 : (0 : Int) ≤ (k : Int) := by omega
      have hk5 : (k : Int) < (m : Int) := by omega
      clear hcs hb5
      go_wp2_with fail
      refine (sp_flip hS 6 (by omega) (by omega) (by omega)).mono ?_
      rintro e w1 ⟨_, rfl, ⟨fv, rfl⟩, hS1⟩
      clear c0 hS
      cases fv
      · go_wp2_with fail
        refine (sp_someOfL hS1 #[.string ⟨#[97, 110, 110]⟩, .string ⟨#[98, 101, 97]⟩, .string ⟨#[99, 105, 100]⟩] 9 3 (by decide) (by decide) rfl (strLit_ok rfl) (by omega)).mono ?_
        rintro e w2 ⟨_, rfl, ⟨z, rfl, hzz, hzw⟩, hS2⟩
        have HZW : Hid (z ∈ whos3) := lit_mem whos3 rfl hzw
        clear hzw
        clear hS1
        go_wp2_with fail
        refine (sp_pickL hS2 #[.int .i64 0, .int .i64 10, .int .i64 20] 3 3 0 20 (by decide) (by decide) rfl rfl (by omega)).mono ?_
        rintro e w3 ⟨_, rfl, ⟨p, rfl, hp0, hp1⟩, hS3⟩
        clear hS2
        go_wp2_with fail
        refine (sp_pickL hS3 #[.int .i64 50, .int .i64 100, .int .i64 100, .int .i64 200] 3 4 50 200 (by decide) (by decide) rfl rfl (by omega)).mono ?_
        rintro e w4 ⟨_, rfl, ⟨q, rfl, hq0, hq1⟩, hS4⟩
        clear hS3
        have hS5 := (((((hS4.add #[.string s, .string z, .slice none 0 0, .int .i64 p, .int .i64 q] 47).add #[.string ⟨#[97, 110, 110]⟩, .string ⟨#[104, 97, 108]⟩, .string ⟨#[106, 111, 101]⟩] 9).front 1 rfl rfl).nil w.heap.size 9 1))
        simp only [size1] at hS5
        have hz4 := hS4.size
        clear hS4
        go_wp2_with fail
        go_loopw [34] (fun i wr => ∃ (j : Nat) (ha : Option Addr) (hc : Nat) (hh : List ByteArray), j ≤ 3 ∧ i = .int .i64 j ∧ hh.length ≤ j ∧ (∀ s ∈ hh, s.size ≤ 1000) ∧ Hid (hh.Sublist (hosts3.take j) ∧ memS hh z = false) ∧ Sp w b (K + 7 * k + 4 + j) wr [rOwn w.heap.size 9 1 (.slice ha hh.length hc) hh.length (strsV hh), rBlk w4.heap.size 47 #[.string s, .string z, .slice ha hh.length hc, .int .i64 p, .int .i64 q], rBlk (w4.heap.size + 1) 9 #[.string ⟨#[97, 110, 110]⟩, .string ⟨#[104, 97, 108]⟩, .string ⟨#[106, 111, 101]⟩], rOwn w.heap.size 47 5 u5 xs.length (xs.flatMap sltC), rAll (hostR w.heap.size) xs, rBlk w.heap.size 9 #[.string ⟨#[115, 99]⟩, .string ⟨#[115, 97]⟩, .string ⟨#[115, 100]⟩, .string ⟨#[115, 98]⟩, .string ⟨#[115, 101]⟩]]) (fun i _ => 3 - (intOf i).toNat)
        case atStart => exact ⟨0, none, 0, [], by omega, rfl, by simp, (by intro x hx; cases hx), Lib.hid ⟨List.Sublist.refl _, rfl⟩, hS5⟩
        case round =>
          clear hS5
          obtain ⟨j, ha, hc, hh, hj3, rfl, hhj, hhz, HH, hS⟩ := hrel
          have hbx : Blk wr w4.heap.size 47 #[.string s, .string z, .slice ha hh.length hc, .int .i64 p, .int .i64 q] := hS.nth 1 rfl
          by_cases hjl : j < 3
          · obtain ⟨h, hcs, hhs⟩ := strLit_at (cs := #[.string ⟨#[97, 110, 110]⟩, .string ⟨#[104, 97, 108]⟩, .string ⟨#[106, 111, 101]⟩]) rfl j (by simp; omega)
            have HJN : Hid (hosts3[j]? = some h) := lit_get hosts3 rfl hcs
            have hb3 : Blk wr (w4.heap.size + 1) 9 #[.string ⟨#[97, 110, 110]⟩, .string ⟨#[104, 97, 108]⟩, .string ⟨#[106, 111, 101]⟩] := hS.nth 2 rfl
            have c0 := (hb3.cell j).trans hcs
            have hj0 : (0 : Int) ≤ (j : Int) := by omega
            have hj5 : (j : Int) < 3 := by omega
            clear hcs hb3 hbx
            go_wp2_with fail
            refine (sp_flip hS 3 (by omega) (by omega) (by omega)).mono ?_
            rintro e w5 ⟨_, rfl, ⟨fv, rfl⟩, hS5⟩
            clear c0 hS
            have hbx : Blk w5 w4.heap.size 47 #[.string s, .string z, .slice ha hh.length hc, .int .i64 p, .int .i64 q] := hS5.nth 1 rfl
            have d1 := hbx.cell 1
            have d2 := hbx.cell 2
            clear hbx
            cases fv
            · go_wp2_with fail
              go_roundw
              case rel => exact ⟨j + 1, ha, hc, hh, by omega, by go_num, by omega, hhz, Lib.hid ⟨by rw [List.take_add_one, HJN.out]; exact HH.out.1.trans (List.sublist_append_left _ _), HH.out.2⟩, hS5⟩
              case measure => simp [intOf]; omega
            · obtain ⟨B, hB⟩ : ∃ B, (h.toList == z.toList) = B := ⟨_, rfl⟩
              cases B
              · have HB := Lib.hid hB
                have hz5 := hS5.size
                have HO5 : w5.ownsRow w.heap.size 9 1 (.slice ha hh.length hc) hh.length (strsV hh) := hS5.head
                go_wp2_with (first
                  | (at_builtin; refine wpList_append_own_at _ rfl _ _ 26 rfl w.heap.size 9 j0 (.string ⟨#[]⟩) 1 16 Tryz.underlying26 hj hy0 hy1 hy2 rfl (by decide) _ _ _ rfl (HO5.alloc _) ⟨w5.heap.size, 0, none⟩ 1 1 [.string h] rfl rfl (World.news_of_block (heap_alloc_new _ _)) (one1 rfl) (by unfold maxLen; omega) (by omega) (by simp; omega) ?_; intro v' w8 hown' hgrow _ hblk; obtain ⟨A8, c8, hv8⟩ := own_form hown'; subst hv8; have hS8 := (hS5.alloc _).append hown' hgrow hblk; clear hown' hgrow hblk; have hbx8 : Blk w8 w4.heap.size 47 #[.string s, .string z, .slice ha hh.length hc, .int .i64 p, .int .i64 q] := hS8.nth 1 rfl; have e2 := hbx8.cell 2; have f2 := hbx8.frozen 2; have l8 := hbx8.lt))
                have hS9 := ((hS8.front 1 rfl rfl).set_ 2 (.slice A8 (hh.length + 1) c8)).front 1 rfl rfl
                go_roundw
                case rel => exact ⟨j + 1, A8, c8, hh ++ [h], by omega, by go_num, by simp; omega, (by intro y hy; rcases List.mem_append.1 hy with hy | hy; exact hhz y hy; simp at hy; subst hy; exact hhs), Lib.hid ⟨by rw [List.take_add_one, HJN.out]; exact HH.out.1.append (List.Sublist.refl _), memS_snoc HH.out.2 HB.out⟩, by rw [List.length_append]; unfold strsV; rw [List.map_append]; exact hS9.more (by omega)⟩
                case measure => simp [intOf]; omega
              · go_wp2_with fail
                go_roundw
                case rel => exact ⟨j + 1, ha, hc, hh, by omega, by go_num, by omega, hhz, Lib.hid ⟨by rw [List.take_add_one, HJN.out]; exact HH.out.1.trans (List.sublist_append_left _ _), HH.out.2⟩, hS5⟩
                case measure => simp [intOf]; omega
          · obtain rfl : j = 3 := by omega
            have d0 := hbx.cell 0
            have d1 := hbx.cell 1
            have d2 := hbx.cell 2
            have d3 := hbx.cell 3
            have d4 := hbx.cell 4
            have hz5 := hS.size
            have hSf := hS.front 3 rfl rfl
            have HO5 : wr.ownsRow w.heap.size 47 5 u5 xs.length (xs.flatMap sltC) := hSf.head
            clear hbx hS
            go_wp2_with (first
              | (at_builtin; refine wpList_append_own_at _ rfl _ _ 36 rfl w.heap.size 47 i0 (.agg #[.string ⟨#[]⟩, .string ⟨#[]⟩, .slice none 0 0, .int .i64 0, .int .i64 0]) 5 72 Tryz.underlying36 hi hz0 hz1 hz2 rfl (by decide) _ _ _ rfl (HO5.alloc _) ⟨wr.heap.size, 0, none⟩ 1 1 [.string s, .string z, .slice ha hh.length hc, .int .i64 p, .int .i64 q] rfl rfl (World.news_of_block (heap_alloc_new _ _)) (one5 rfl rfl rfl rfl rfl) (by unfold maxLen; omega) (by omega) (by simp; omega) ?_; intro v' w8 hown' hgrow _ hblk; have hS8 := (hSf.alloc _).append hown' hgrow hblk; clear hown' hgrow hblk))
            have hS9 : Sp w b (K + 7 * k + 4 + 3) w8 [rOwn w.heap.size 47 5 v' (xs ++ [(⟨s, z, ha, hc, hh, p, q⟩ : Slt)]).length ((xs ++ [(⟨s, z, ha, hc, hh, p, q⟩ : Slt)]).flatMap sltC), rAll (hostR w.heap.size) (xs ++ [(⟨s, z, ha, hc, hh, p, q⟩ : Slt)]), rBlk w.heap.size 9 #[.string ⟨#[115, 99]⟩, .string ⟨#[115, 97]⟩, .string ⟨#[115, 100]⟩, .string ⟨#[115, 98]⟩, .string ⟨#[115, 101]⟩]] := by
              rw [flat_snoc, List.length_append]
              exact ((((((hS8.drop 3 rfl rfl).drop 2 rfl rfl).front 2 rfl rfl).front 2 rfl rfl).snoc (f := hostR w.heap.size) (a := ⟨s, z, ha, hc, hh, p, q⟩) (hostR_ok _))).front 1 rfl rfl
            go_roundw
            case rel => exact ⟨k + 1, _, by omega, by go_num, by simp; omega, hz.snoc ⟨hss, hzz, hhz, hhj, (⟨by omega, by omega⟩ : -2199023255552 ≤ p ∧ p ≤ 2199023255552), (⟨by omega, by omega⟩ : -2199023255552 ≤ q ∧ q ≤ 2199023255552)⟩, Lib.hid (HR.out.snoc HSN.out ⟨HZW.out, HH.out.1.trans (List.take_sublist _ _), HH.out.2, ⟨hp0, hp1⟩, ⟨hq0, hq1⟩⟩), hS9.more (by omega)⟩
            case measure => simp [intOf]; omega
      · go_wp2_with fail
        go_roundw
        case rel => exact ⟨k + 1, xs, by omega, by go_num, by omega, hz, Lib.hid (HR.out.skip HSN.out), hS1.more (by omega)⟩
        case measure => simp [intOf]; omega
    · obtain rfl : k = m := by omega
      go_wp2_with fail
      go_ret
      exact ⟨_, xs, rfl, hxk, hz, HR.out.right (by omega), (hS.drop 2 rfl rfl).more (by omega)⟩
end Go.Proofs.YtejadhehmcifoaaGreatDoor

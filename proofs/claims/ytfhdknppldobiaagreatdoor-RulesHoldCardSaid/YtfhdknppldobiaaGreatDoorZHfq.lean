/-
  The closures of HoldsFor and WhyOf, given what splitref2.holds answers; HoldsFor and WhyOf by contracts.
-/
import Derived.Test.YtfhdknppldobiaaGreatDoorZBlq
import Derived.Test.YtfhdknppldobiaaGreatDoorZHld3
import Derived.Test.YtfhdknppldobiaaGreatDoorZPsd
import Derived.Test.YtfhdknppldobiaaGreatDoorZHldPure
import Derived.Test.YtfhdknppldobiaaGreatDoorZTxt2
import Derived.Test.YtfhdknppldobiaaGreatDoorZRng
import Derived.Test.YtfhdknppldobiaaGreatDoorZSlotPure
namespace Go.Proofs.YtfhdknppldobiaaGreatDoor
open Go Go.RowKit
attribute [local go_sem ↓] Go.wp_at_zero Go.wp_at_succ

/-- what splitref2.holds answers for an atom's text -/
def HdqH (G : ByteArray → Prop) (isQ : ByteArray → Bool) (b : Nat) (x : Rn) (w0 : World) : Prop := ∀ l W, G l → Below w0.heap.size w0 W → RnW W b x →
  Calls Tryz.prog 110 #[.string l, .agg #[.string x.id, .string x.who, .int .i64 x.time, .int .i64 x.date, .slice x.fa x.fs.length x.fc]] W (BRet (.bool (isQ l)) W)
theorem hfq1_calls (G : ByteArray → Prop) (isQ : ByteArray → Bool) (b g : Nat) (x : Rn) (w0 : World) (hx : RunB w0 b g x) (hh : HdqH G isQ b x w0) (fid : Nat) (hf : fid = 109 ∨ fid = 112) : IsQ G isQ fid g w0 := by
  intro l W hl hW
  have hX := hx.below hW
  have c0 : W.cell? ⟨g, 0, none⟩ = some (.string x.id) := hX.1.cell 0
  have c1 : W.cell? ⟨g, 1, none⟩ = some (.string x.who) := hX.1.cell 1
  have c2 : W.cell? ⟨g, 2, none⟩ = some (.int .i64 x.time) := hX.1.cell 2
  have c3 : W.cell? ⟨g, 3, none⟩ = some (.int .i64 x.date) := hX.1.cell 3
  have c4 : W.cell? ⟨g, 4, none⟩ = some (.slice x.fa x.fs.length x.fc) := hX.1.cell 4
  have HC := Lib.hid (hh l W hl hW hX.2)
  obtain ⟨fl, hfl⟩ : ∃ z, x.fs.length = z := ⟨_, rfl⟩
  rw [hfl] at HC c4
  obtain ⟨v9, hv9⟩ : ∃ z, isQ l = z := ⟨_, rfl⟩
  rw [hv9] at HC ⊢
  obtain ⟨xid, xwho, xt, xd, xfa, xfc, xfs⟩ := x
  simp only at HC c0 c1 c2 c3 c4
  clear hX hx hh hl hW hfl hv9
  rcases hf with rfl | rfl
  · go_enter Tryz.func109, Tryz.ntmps109
    go_wp2_with fail
    refine HC.out.mono ?_
    rintro e w2 ⟨rfl, hb2⟩
    go_wp2_with fail
    go_ret
    exact ⟨rfl, hb2⟩
  · go_enter Tryz.func112, Tryz.ntmps112
    go_wp2_with fail
    refine HC.out.mono ?_
    rintro e w2 ⟨rfl, hb2⟩
    go_wp2_with fail
    go_ret
    exact ⟨rfl, hb2⟩
set_option maxRecDepth 100000 in
set_option maxHeartbeats 1000000 in
theorem holdsFor_calls (num : ByteArray → Int × Bool) (hnum : NumOk num) (s : ByteArray) (b : Nat) (x : Rn) (w : World) (hs : s.size ≤ 90000) (h0 : (parseE num s).2 = 0) (hx : RnW w b x) (isQ : ByteArray → Bool)
    (hH : ∀ w0, Below w.heap.size w w0 → HdqH (fun l => ∃ a ∈ atsF (parseT num s).1, txtA a = l) isQ b x w0) :
    Calls Tryz.prog 55 #[.string s, .agg #[.string x.id, .string x.who, .int .i64 x.time, .int .i64 x.date, .slice x.fa x.fs.length x.fc]] w (BRet (.bool (truQ isQ (flat (parseT num s).1))) w) := by
  obtain ⟨hok, hcn, l', hor⟩ := (check_parse num hnum s).2 h0
  have hc := cnt_flat hok
  have hS := (Sq.start w).add (rnC x).toArray 36
  have hX1 : RunB (w.alloc (.cells (rnC x).toArray 36)) b w.heap.size x := ⟨hS.head, hx.below hS.below⟩
  have hbw := Lib.hid hS.below
  have HP := Lib.hid (parsed_calls s (flat (parseT num s).1) l' (s.size + 1) (w.alloc (.cells (rnC x).toArray 36)) hs hor)
  have HT : Hid (∀ (w2 : World) (A : Option Addr) (c : Nat) (P : Nat → Prop), Below (w.alloc (.cells (rnC x).toArray 36)).heap.size (w.alloc (.cells (rnC x).toArray 36)) w2 → NqV w2 P (A, c) (flat (parseT num s).1) → (∀ k, P k → k < w2.heap.size) →
      Calls Tryz.prog 108 #[.agg #[.string (flat (parseT num s).1).op, .string (flat (parseT num s).1).atom, .slice A (flat (parseT num s).1).kids.length c], .func (.func 109) #[] #[.pointer (some ⟨w.heap.size, 0, none⟩)]] w2 (BRet (.bool (truQ isQ (flat (parseT num s).1))) w2)) :=
    Lib.hid (fun w2 A c P hb hN hP => tru_calls isQ (flat_all hok) (by omega) w2 _ w.heap.size A c P hN hP (hfq1_calls _ isQ b _ x w2 (hX1.below hb) (hH w2 (below_call hS.below hb (Nat.le_refl _))) _ (.inl rfl)) (.inl rfl))
  obtain ⟨u, hu⟩ : ∃ u, flat (parseT num s).1 = u := ⟨_, rfl⟩
  rw [hu] at HP HT ⊢
  unfold PsdS at HP
  obtain ⟨v9, hv9⟩ : ∃ z, truQ isQ u = z := ⟨_, rfl⟩
  rw [hv9] at HT ⊢
  obtain ⟨fl, hfl⟩ : ∃ z, x.fs.length = z := ⟨_, rfl⟩
  have hrn : (rnC x).toArray = #[.string x.id, .string x.who, .int .i64 x.time, .int .i64 x.date, .slice x.fa fl x.fc] := by rw [← hfl]; rfl
  rw [hrn] at HP HT hbw
  rw [hfl]
  clear hX1 hS hx hrn hfl hor hok hcn hc h0 hu hH hv9
  go_enter Tryz.func55, Tryz.ntmps55
  go_wp2_with fail
  refine HP.out.mono ?_
  rintro e w2 ⟨A, c, P, rfl, hN, hP, hb2⟩
  have HC := Lib.hid (HT.out w2 A c P hb2 hN (fun k hk => (hP k hk).2))
  have HB := Lib.hid (below_call hbw.out hb2 (Nat.le_refl _))
  clear hN hP hb2 HT
  go_wp2_with fail
  refine HC.out.mono ?_
  rintro e w3 ⟨rfl, hb3⟩
  go_wp2_with fail
  go_ret
  exact ⟨rfl, below_call HB.out hb3 (Nat.le_refl _)⟩
set_option maxRecDepth 100000 in
set_option maxHeartbeats 1000000 in
theorem whyOf_calls (num : ByteArray → Int × Bool) (hnum : NumOk num) (s : ByteArray) (b : Nat) (x : Rn) (w : World) (hs : s.size ≤ 90000) (h0 : (parseE num s).2 = 0) (hx : RnW w b x) (isQ : ByteArray → Bool)
    (hH : ∀ w0, Below w.heap.size w w0 → HdqH (fun l => ∃ a ∈ atsF (parseT num s).1, txtA a = l) isQ b x w0) :
    Calls Tryz.prog 56 #[.string s, .agg #[.string x.id, .string x.who, .int .i64 x.time, .int .i64 x.date, .slice x.fa x.fs.length x.fc]] w (AtqS (Lib.compact (srtL (blmQ isQ true (flat (parseT num s).1)))) w) := by
  obtain ⟨hok, hcn, l', hor⟩ := (check_parse num hnum s).2 h0
  have hc := cnt_flat hok
  have hS := (Sq.start w).add (rnC x).toArray 36
  have hX1 : RunB (w.alloc (.cells (rnC x).toArray 36)) b w.heap.size x := ⟨hS.head, hx.below hS.below⟩
  have hbw := Lib.hid hS.below
  have HP := Lib.hid (parsed_calls s (flat (parseT num s).1) l' (s.size + 1) (w.alloc (.cells (rnC x).toArray 36)) hs hor)
  have HT : Hid (∀ (w2 : World) (A : Option Addr) (c : Nat) (P : Nat → Prop), Below (w.alloc (.cells (rnC x).toArray 36)).heap.size (w.alloc (.cells (rnC x).toArray 36)) w2 → NqV w2 P (A, c) (flat (parseT num s).1) → (∀ k, P k → k < w2.heap.size) →
      Calls Tryz.prog 111 #[.agg #[.string (flat (parseT num s).1).op, .string (flat (parseT num s).1).atom, .slice A (flat (parseT num s).1).kids.length c], .bool true, .func (.func 112) #[] #[.pointer (some ⟨w.heap.size, 0, none⟩)]] w2 (AtqS (blmQ isQ true (flat (parseT num s).1)) w2)) :=
    Lib.hid (fun w2 A c P hb hN hP => blq_calls isQ (flat_all hok) (by omega) w2 _ w.heap.size true A c P hN hP (hfq1_calls _ isQ b _ x w2 (hX1.below hb) (hH w2 (below_call hS.below hb (Nat.le_refl _))) _ (.inr rfl)) (.inr rfl))
  have HLB : Hid ((blmQ isQ true (flat (parseT num s).1)).length ≤ 100000) := Lib.hid (by have := blqQ_len isQ (flat_all hok) true; omega)
  obtain ⟨bl, hbl⟩ : ∃ z, blmQ isQ true (flat (parseT num s).1) = z := ⟨_, rfl⟩
  rw [hbl] at HT HLB ⊢
  obtain ⟨u, hu⟩ : ∃ u, flat (parseT num s).1 = u := ⟨_, rfl⟩
  rw [hu] at HP HT
  unfold PsdS at HP
  unfold AtqS at HT
  obtain ⟨fl, hfl⟩ : ∃ z, x.fs.length = z := ⟨_, rfl⟩
  have hrn : (rnC x).toArray = #[.string x.id, .string x.who, .int .i64 x.time, .int .i64 x.date, .slice x.fa fl x.fc] := by rw [← hfl]; rfl
  rw [hrn] at HP HT hbw
  rw [hfl]
  have HSO := Lib.hid (fun w0 W rs A n c ls h1 h2 => sortS_calls w0 W rs A n c ls h1 h2)
  have HCO := Lib.hid (fun w0 W rs A n c ls h1 h2 => compS_calls w0 W rs A n c ls h1 h2)
  have hlb := HLB.out
  clear hX1 hS hx hrn hfl hor hok hcn hc h0 hu hH hbl
  go_enter Tryz.func56, Tryz.ntmps56
  go_wp2_with fail
  refine HP.out.mono ?_
  rintro e w2 ⟨A, c, P, rfl, hN, hP, hb2⟩
  have HC := Lib.hid (HT.out w2 A c P hb2 hN (fun k hk => (hP k hk).2))
  have HB := Lib.hid (below_call hbw.out hb2 (Nat.le_refl _))
  clear hN hP hb2 HT
  go_wp2_with fail
  refine HC.out.mono ?_
  rintro e w3 ⟨A3, c3, rfl, ho3, hb3⟩
  have hQ3 : Sq w2 w3 [rOwn w2.heap.size 9 1 (.slice A3 bl.length c3) bl.length (svB bl)] := (Sq.start w2).new_ hb3 ho3 (rOwn_ok _ _ _ _ _ _) (fun g hg => ⟨(ho3.lt g hg).1, (ho3.lt g hg).2⟩)
  have HS1 := Lib.hid (HSO.out w2 w3 _ A3 bl.length c3 bl (by omega) hQ3)
  clear hQ3 ho3 hb3
  go_wp2_with fail
  refine HS1.out.mono ?_
  rintro e w4 ⟨rfl, hS4⟩
  have HS2 := Lib.hid (HCO.out w2 w4 _ A3 bl.length c3 (srtL bl) (by omega) hS4)
  clear hS4
  go_wp2_with fail
  refine HS2.out.mono ?_
  rintro e w5 ⟨rfl, hS5⟩
  go_wp2_with fail
  go_ret
  exact ⟨A3, c3, rfl, own_base hS5.head HB.out.size, below_call HB.out hS5.below (Nat.le_refl _)⟩
end Go.Proofs.YtfhdknppldobiaaGreatDoor
/-
  The words of an atom's text, in plain words. No Go text is named here.
-/
namespace Go.Proofs.YtfhdknppldobiaaGreatDoor
open Go Go.RowKit TxtP

theorem pcs_of {c : UInt8} {s : ByteArray} {l : List ByteArray} (h : spl c s.data.toList = l.map (·.data.toList)) : pcs c s = l := by
  have h2 := pcs_data c s
  rw [h] at h2
  exact (List.map_inj_right (fun a b h => ba_inj h)).1 h2
theorem data_app (a b : ByteArray) : (a ++ b).data.toList = a.data.toList ++ b.data.toList := by
  rw [ByteArray.data_append, Array.toList_append]
theorem pcs_has {x : ByteArray} (h : (32 : UInt8) ∉ x.data.toList) : pcs 32 (hasQ x) = [sHas, x] := by
  refine pcs_of ?_
  have e : (hasQ x).data.toList = [104, 97, 115] ++ 32 :: x.data.toList := by unfold hasQ; rw [data_app]; rfl
  rw [e, spl_app _ (by decide), spl_no h]
  rfl
theorem pcs_tri {a b c : ByteArray} (ha : (32 : UInt8) ∉ a.data.toList) (hb : (32 : UInt8) ∉ b.data.toList) (hc : (32 : UInt8) ∉ c.data.toList) : pcs 32 (triQ a b c) = [a, b, c] := by
  refine pcs_of ?_
  have e : (triQ a b c).data.toList = a.data.toList ++ 32 :: (b.data.toList ++ 32 :: c.data.toList) := by
    unfold triQ
    rw [data_app, data_app, data_app, data_app]
    show ((a.data.toList ++ [32]) ++ b.data.toList ++ [32]) ++ c.data.toList = _
    simp
  rw [e, spl_app _ ha, spl_app _ hb, spl_no hc]
  rfl
theorem pcs_true : pcs 32 sTrue = [sTrue] := pcs_of (by show spl 32 [116, 114, 117, 101] = _; rw [spl_no (by decide)]; rfl)
theorem word_noBl {l : List UInt8} (h : l.all wordB = true) : (32 : UInt8) ∉ l := fun hm => by
  have := List.all_eq_true.1 h 32 hm
  exact absurd this (by decide)
theorem value_noBl {x : ByteArray} (h : valueB x = true) : (32 : UInt8) ∉ x.data.toList := by
  unfold valueB at h
  rw [Bool.and_eq_true] at h
  exact word_noBl h.2
theorem name_noBl {x : ByteArray} (h : nameB x = true) : (32 : UInt8) ∉ x.data.toList := by
  unfold nameB at h
  rw [Bool.and_eq_true] at h
  have h1 := h.1
  unfold keyB at h1
  rw [Bool.and_eq_true] at h1
  intro hm
  have := List.all_eq_true.1 h1.2 32 hm
  exact absurd this (by decide)
theorem name_ne {x : ByteArray} (h : nameB x = true) : x ≠ sTime ∧ x ≠ sHas ∧ x ≠ sTrue := by
  unfold nameB at h
  rw [Bool.and_eq_true] at h
  have h2 := h.2
  refine ⟨fun e => ?_, fun e => ?_, fun e => ?_⟩ <;> (subst e; simp at h2)
theorem fieldH_any (f : ByteArray) : ∀ ps : List Pr, fieldH f ps = ps.any fun p => decide (p.1 = f)
  | [] => rfl
  | p :: ps => by
    rw [fieldH, List.any_cons, fieldH_any f ps]
    by_cases h : p.1 = f
    · rw [if_pos h]; simp [h]
    · rw [if_neg h]; simp [h]
/-- in a right run each name comes once -/
theorem field_mem (f v : ByteArray) : ∀ (ps : List Pr) (last : ByteArray), fldG last ps = 0 → ((fieldH f ps && decide (fieldV f ps = v)) = true ↔ (f, v) ∈ ps)
  | [], _, _ => by simp [fieldH]
  | p :: ps, last, h => by
    have hg := fldG_gt (p :: ps) last h
    rw [fldG] at h
    split at h
    · cases h
    · split at h
      · cases h
      · split at h
        · cases h
        · have ih := field_mem f v ps p.1 h
          have hn : ∀ q ∈ ps, q.1 ≠ p.1 := fun q hq e => by
            have h1 := fldG_gt ps p.1 h q hq
            rw [e] at h1
            unfold gtS at h1
            rw [leS_self] at h1
            cases h1
          rw [fieldH, fieldV]
          by_cases he : p.1 = f
          · rw [if_pos he, if_pos he, Bool.true_and, decide_eq_true_eq]
            constructor
            · intro hv
              rw [← he, ← hv]
              exact List.mem_cons_self ..
            · intro hm
              rcases List.mem_cons.1 hm with hm | hm
              · rw [← hm]
              · exact absurd he.symm (hn _ hm)
          · rw [if_neg he, if_neg he, ih]
            constructor
            · exact fun hm => List.mem_cons_of_mem _ hm
            · intro hm
              rcases List.mem_cons.1 hm with hm | hm
              · exact absurd (by rw [← hm]) he
              · exact hm
end Go.Proofs.YtfhdknppldobiaaGreatDoor
/-
  splitref2.holds by contract: its closure.
-/
namespace Go.Proofs.YtfhdknppldobiaaGreatDoor
open Go Go.RowKit
attribute [local go_sem ↓] Go.wp_at_zero Go.wp_at_succ

set_option maxRecDepth 100000 in
theorem hdq1_calls (bx gw : Nat) (c : Nat) (nm p1 p2 : ByteArray) (W : World) (h0 : W.cell? ⟨bx, 0, none⟩ = some (.slice (some ⟨gw, 0, none⟩) 2 c)) (h1 : W.cell? ⟨gw, 1, none⟩ = some (.string nm)) :
    Calls Tryz.prog 162 #[.agg #[.string p1, .string p2], .pointer (some ⟨bx, 0, none⟩)] W (BRet (.bool (decide (p1 = nm))) W) := by
  have hS := (Sq.start W).add #[.string p1, .string p2] 86
  have b0 : (W.alloc (.cells #[.string p1, .string p2] 86)).cell? ⟨W.heap.size, 0, none⟩ = some (.string p1) := Blk.cell hS.head 0
  have d0 := below_cell hS.below h0
  have d1 := below_cell hS.below h1
  have HB := Lib.hid hS.below
  obtain ⟨q, hq⟩ : ∃ z : Bool, (p1.toList == nm.toList) = z := ⟨_, rfl⟩
  have HQ : Hid (decide (p1 = nm) = q) := Lib.hid (by
    rw [← hq]
    by_cases hh : p1 = nm
    · subst hh; simp
    · rw [decide_eq_false hh, eq_comm, beq_eq_false_iff_ne]
      intro e; exact hh (by rw [Lib.toList_data, Lib.toList_data] at e; exact ba_inj e))
  rw [HQ.out]
  clear hS h0 h1
  go_enter Tryz.func162, Tryz.ntmps162
  go_wp2_with fail
  go_quiet (fail)
  all_goals
    go_wp2_with fail
    go_ret
    exact ⟨rfl, below_drewN HB.out _⟩
set_option maxRecDepth 100000 in
theorem contPr_calls (b bx gw c : Nat) (nm : ByteArray) (A2 : Option Addr) (m c2 : Nat) (hs : List Pr) (w : World) (g0 : w.cell? ⟨bx, 0, none⟩ = some (.slice (some ⟨gw, 0, none⟩) 2 c)) (g1 : w.cell? ⟨gw, 1, none⟩ = some (.string nm)) (hr2 : Rd w b 2 (.slice A2 m c2) m (hs.flatMap prC)) :
    Calls Tryz.prog 161 #[.slice A2 m c2, .func (.func 162) #[] #[.pointer (some ⟨bx, 0, none⟩)]] w (BRet (.bool (hs.any (fun y => decide (y.1 = nm)))) w) := by
  obtain ⟨hl, hnc, hcm, hcells⟩ := hr2.cells prC_len (by omega)
  unfold maxLen at hcm
  obtain ⟨p, hpp⟩ : ∃ p : Pr → Bool, (fun y : Pr => decide (y.1 = nm)) = p := ⟨_, rfl⟩
  have HCC : Hid (∀ W x, Below w.heap.size w W → Calls Tryz.prog 162 #[.agg #[.string x.1, .string x.2], .pointer (some ⟨bx, 0, none⟩)] W (BRet (.bool (p x)) W)) := fun W x hW => by
    rw [← hpp]
    exact hdq1_calls bx gw c nm x.1 x.2 W (below_cell hW g0) (below_cell hW g1)
  have HL := Lib.hid hl
  have HCL := Lib.hid hcells
  rw [hpp]
  have HM := Lib.hid (ixOf_mem p hs)
  clear hcells hl hr2 g0 g1 hpp
  go_enter Tryz.func161, Tryz.ntmps161
  go_wp2
  go_loopw [8] (fun i wr => ∃ k : Nat, k ≤ m ∧ i = .int .i64 k ∧ Hid (∀ i (_ : i < k) (hi' : i < hs.length), p hs[i] = false) ∧ Below w.heap.size w wr) (fun i _ => m - (intOf i).toNat)
  case atStart => exact ⟨0, Nat.zero_le _, rfl, (fun i hi => absurd hi (by omega)), Below.refl _ _⟩
  case round =>
    obtain ⟨k, hk, rfl, HF, hbr⟩ := hrel
    by_cases hlt : k < m
    · have hkr : k < hs.length := by rw [HL.out]; exact hlt
      obtain ⟨g, o, hA, _, hcs⟩ := HCL.out (by omega)
      subst hA
      have c0 := below_cell hbr (hcs k hkr 0 (by omega))
      have c1 := below_cell hbr (hcs k hkr 1 (by omega))
      obtain ⟨s, hs'⟩ : ∃ s, hs[k] = s := ⟨_, rfl⟩
      rw [hs'] at c0 c1
      replace c0 : wr.cell? ⟨g, o + k * 2, none⟩ = some (.string s.1) := c0
      replace c1 : wr.cell? ⟨g, o + k * 2 + 1, none⟩ = some (.string s.2) := c1
      have HK := Lib.hid (HCC.out wr s hbr)
      clear hcs
      cases hp : p s
      · rw [hp] at HK
        have HF2 : Hid (∀ i (_ : i < k + 1) (hi' : i < hs.length), p hs[i] = false) := by
          intro i hi hi'
          by_cases hik : i = k
          · subst hik; rw [hs']; exact hp
          · exact HF.out i (by omega) hi'
        clear hp hs'
        go_wp2_with (go_at_call 162; refine HK.out.mono ?_; rintro e w2 ⟨rfl, hb2⟩)
        have hb3 := below_call hbr hb2 (Nat.le_refl _)
        go_roundw
        case rel => exact ⟨k + 1, by omega, by go_num, HF2, hb3⟩
        case measure => simp [intOf]; omega
      · rw [hp] at HK
        have HR : Hid (ixOf p hs = k) := ixOf_at _ hs k hkr (fun i hi => HF.out i hi (by omega)) (by rw [hs']; exact hp)
        have HA : Hid (hs.any p = true) := by
          have := HM.out
          rw [HR.out] at this
          rw [← this]
          exact Lib.hid (decide_eq_true (by omega))
        clear hp hs'
        go_wp2_with (go_at_call 162; refine HK.out.mono ?_; rintro e w2 ⟨rfl, hb2⟩)
        have hb3 := below_call hbr hb2 (Nat.le_refl _)
        go_ret
        exact ⟨ret_bool HA.out.symm, hb3⟩
    · obtain rfl : k = m := by omega
      have HR : Hid (ixOf p hs = -1) := ixOf_no _ hs (fun i hi => HF.out i (by rw [← HL.out]; exact hi) hi)
      have HA : Hid (hs.any p = false) := by
        have := HM.out
        rw [HR.out] at this
        rw [← this]
        exact Lib.hid rfl
      go_wp2
      go_ret
      exact ⟨ret_bool HA.out.symm, hbr⟩
end Go.Proofs.YtfhdknppldobiaaGreatDoor

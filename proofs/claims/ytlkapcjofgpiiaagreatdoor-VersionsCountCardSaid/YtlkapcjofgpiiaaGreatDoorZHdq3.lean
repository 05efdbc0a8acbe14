/-
  splitref2.holds by contracts.
-/
import Derived.Test.YtlkapcjofgpiiaaGreatDoorZHld3
import Derived.Test.YtlkapcjofgpiiaaGreatDoorZChkOf
import Derived.Test.YtlkapcjofgpiiaaGreatDoorZSq
namespace Go.Proofs.YtlkapcjofgpiiaaGreatDoor
open Go Go.RowKit TxtP
attribute [local go_sem ↓] Go.wp_at_zero Go.wp_at_succ

/-- the world behind Split and the variable that holds its words -/
structure Hw (W : World) (b : Nat) (x : Rn) (ps : List ByteArray) (V : World) (gw gv : Nat) : Prop where
  c0 : V.cell? ⟨W.heap.size, 2, none⟩ = some (.int .i64 x.time)
  c1 : V.cell? ⟨W.heap.size, 4, none⟩ = some (.slice x.fa x.fs.length x.fc)
  v0 : V.cell? ⟨gv, 0, none⟩ = some (.slice (some ⟨gw, 0, none⟩) ps.length ps.length)
  bk : Blk V gw 9 (strCs ps)
  rd : RnW V b x
  bw : Below W.heap.size W V
theorem hw_of {W w2 : World} {b : Nat} {x : Rn} {ps : List ByteArray} (hx : RnW W b x) (hb : Below (W.alloc (.cells (rnC x).toArray 36)).heap.size (W.alloc (.cells (rnC x).toArray 36)) w2) (hk : Blk w2 (W.alloc (.cells (rnC x).toArray 36)).heap.size 9 (strCs ps)) :
    Hw W b x ps (w2.alloc (.cells #[.slice (some ⟨(W.alloc (.cells (rnC x).toArray 36)).heap.size, 0, none⟩) ps.length ps.length] 37)) (W.alloc (.cells (rnC x).toArray 36)).heap.size w2.heap.size := by
  have hS := (Sq.start W).add (rnC x).toArray 36
  have hR := (Blk.below hS.head hb)
  have hA := (Below.refl w2.heap.size w2).alloc (Nat.le_refl _) (.cells #[.slice (some ⟨(W.alloc (.cells (rnC x).toArray 36)).heap.size, 0, none⟩) ps.length ps.length] 37)
  have hS2 := (Sq.start w2).add #[.slice (some ⟨(W.alloc (.cells (rnC x).toArray 36)).heap.size, 0, none⟩) ps.length ps.length] 37
  have hw2 := below_call hS.below hb (Nat.le_refl _)
  exact ⟨(Blk.below hR hA).cell 2, (Blk.below hR hA).cell 4, Blk.cell hS2.head 0, Blk.below hk hA, (hx.below hw2).below hA, below_call hw2 hA (Nat.le_refl _)⟩
theorem Hw.below {W V V' : World} {b gw gv : Nat} {x : Rn} {ps : List ByteArray} (h : Hw W b x ps V gw gv) (hb : Below V.heap.size V V') : Hw W b x ps V' gw gv :=
  ⟨below_cell hb h.c0, below_cell hb h.c1, below_cell hb h.v0, Blk.below h.bk hb, h.rd.below hb, below_call h.bw hb (Nat.le_refl _)⟩
theorem Hw.at {W V : World} {b gw gv : Nat} {x : Rn} {ps : List ByteArray} (h : Hw W b x ps V gw gv) (k : Nat) (hk : k < ps.length) : V.cell? ⟨gw, k, none⟩ = some (.string ps[k]) := (h.bk.cell k).trans (strCs_at hk)
set_option maxRecDepth 100000 in
set_option maxHeartbeats 1000000 in
theorem hdqHas_calls (nm : ByteArray) (hn : (32 : UInt8) ∉ nm.data.toList) (hz : nm.size ≤ 40) (b : Nat) (x : Rn) (W : World) (hx : RnW W b x) (hm : MxL W) :
    Calls Tryz.prog 94 #[.string (hasQ nm), .agg #[.string x.id, .string x.who, .int .i64 x.time, .int .i64 x.date, .slice x.fa x.fs.length x.fc]] W (BRet (.bool (x.fs.any (fun y => decide (y.1 = nm)))) W) := by
  have hr0 : (rnC x).toArray = #[.string x.id, .string x.who, .int .i64 x.time, .int .i64 x.date, .slice x.fa x.fs.length x.fc] := rfl
  have hS := ((Sq.start W).add (rnC x).toArray 36).below
  have HSP := split_calls (hasQ nm) 32 (W.alloc (.cells (rnC x).toArray 36)) (by rw [has_size]; omega) (hm.below hS)
  rw [pcs_has hn] at HSP
  unfold SplR at HSP
  have HW : Hid (∀ w2, Below (W.alloc (.cells (rnC x).toArray 36)).heap.size (W.alloc (.cells (rnC x).toArray 36)) w2 → Blk w2 (W.alloc (.cells (rnC x).toArray 36)).heap.size 9 (strCs [sHas, nm]) →
    Hw W b x [sHas, nm] (w2.alloc (.cells #[.slice (some ⟨(W.alloc (.cells (rnC x).toArray 36)).heap.size, 0, none⟩) 2 2] 37)) (W.alloc (.cells (rnC x).toArray 36)).heap.size w2.heap.size) := Lib.hid (fun w2 h1 h2 => hw_of hx h1 h2)
  have h1 : ((hasQ nm).toList == [116, 114, 117, 101]) = false := by rw [tokB (hasQ nm) [116, 114, 117, 101] sTrue rfl]; exact decide_eq_false (has_ne nm)
  have HC : Hid (∀ V gw gv, Hw W b x [sHas, nm] V gw gv → Calls Tryz.prog 114 #[.slice x.fa x.fs.length x.fc, .func (.func 115) #[] #[.pointer (some ⟨gv, 0, none⟩)]] V (BRet (.bool (x.fs.any (fun y => decide (y.1 = nm)))) V)) :=
    Lib.hid (fun V gw gv h => contPr_calls b gv gw 2 nm x.fa x.fs.length x.fc x.fs V h.v0 (h.at 1 (by simp)) h.rd.rd)
  have HX : Hid (∀ V gw gv, Hw W b x [sHas, nm] V gw gv → V.cell? ⟨W.heap.size, 4, none⟩ = some (.slice x.fa x.fs.length x.fc) ∧ V.cell? ⟨gv, 0, none⟩ = some (.slice (some ⟨gw, 0, none⟩) 2 2) ∧ V.cell? ⟨gw, 0, none⟩ = some (.string sHas) ∧ Below W.heap.size W V) := Lib.hid (fun V gw gv h => ⟨h.c1, h.v0, h.at 0 (by simp), h.bw⟩)
  obtain ⟨v9, hv9⟩ : ∃ z, x.fs.any (fun y => decide (y.1 = nm)) = z := ⟨_, rfl⟩
  rw [hv9] at HC ⊢
  obtain ⟨l, hl⟩ : ∃ l, hasQ nm = l := ⟨_, rfl⟩
  rw [hl] at h1 HSP ⊢
  rw [hr0] at HSP HW
  have HS := Lib.hid HSP
  have e9 : (sHas.toList == [116, 105, 109, 101]) = false := by rw [tokB sHas [116, 105, 109, 101] sTime rfl]; decide
  have e8 : (sHas.toList == [104, 97, 115]) = true := by rw [tokB sHas [104, 97, 115] sHas rfl]; decide
  obtain ⟨xid, xwho, xt, xd, xfa, xfc, xfs⟩ := x
  simp only at HC HX HS HW ⊢
  have hz1 : (W.alloc (.cells #[.string xid, .string xwho, .int .i64 xt, .int .i64 xd, .slice xfa xfs.length xfc] 36)).heap.size = W.heap.size + 1 := by simp
  obtain ⟨fl, hfl⟩ : ∃ z, xfs.length = z := ⟨_, rfl⟩
  rw [hfl] at HC HX HS HW hz1 ⊢
  have hl0 : ((2 : Nat) : Int) = 2 := rfl
  clear hS hv9 hl hx hm HSP hr0
  go_enter Tryz.func94, Tryz.ntmps94
  go_upto_region 2 with (first | (go_at_call 112; refine HS.out.mono ?_; rintro e w2 ⟨rfl, hb2, hk2⟩))
  have hh := HW.out w2 hb2 hk2
  rw [hz1] at hh
  obtain ⟨W3, hw3⟩ : ∃ W3, W3 = w2.alloc (.cells #[.slice (some ⟨W.heap.size + 1, 0, none⟩) 2 2] 37) := ⟨_, rfl⟩
  rw [← hw3] at hh ⊢
  clear hw3 HW hb2 hk2
  obtain ⟨k0, k1, k2, k3⟩ := HX.out _ _ _ hh
  have HC2 := Lib.hid (HC.out _ _ _ hh)
  clear hh HX HC
  go_wp2_with fail
  refine HC2.out.mono ?_
  rintro e w4 ⟨rfl, hb4⟩
  go_wp2_with fail
  go_ret
  exact ⟨rfl, below_call k3 hb4 (Nat.le_refl _)⟩
set_option maxRecDepth 100000 in
set_option maxHeartbeats 1000000 in
theorem hdqEq_calls (nm vl : ByteArray) (hn : (32 : UInt8) ∉ nm.data.toList) (hn2 : (32 : UInt8) ∉ vl.data.toList) (hne : nm ≠ sTime ∧ nm ≠ sHas) (hz : nm.size ≤ 40) (hz2 : vl.size ≤ 40) (b : Nat) (x : Rn) (W : World) (hx : RnW W b x) (hm : MxL W) :
    Calls Tryz.prog 94 #[.string (triQ nm sEq vl), .agg #[.string x.id, .string x.who, .int .i64 x.time, .int .i64 x.date, .slice x.fa x.fs.length x.fc]] W (BRet (.bool (x.fs.any (fun y => decide (y.1 = nm) && decide (y.2 = vl)))) W) := by
  have hr0 : (rnC x).toArray = #[.string x.id, .string x.who, .int .i64 x.time, .int .i64 x.date, .slice x.fa x.fs.length x.fc] := rfl
  have hS := ((Sq.start W).add (rnC x).toArray 36).below
  have HSP := split_calls (triQ nm sEq vl) 32 (W.alloc (.cells (rnC x).toArray 36)) (by rw [tri_size, show sEq.size = 1 from rfl]; omega) (hm.below hS)
  rw [pcs_tri hn (by decide) hn2] at HSP
  unfold SplR at HSP
  have HW : Hid (∀ w2, Below (W.alloc (.cells (rnC x).toArray 36)).heap.size (W.alloc (.cells (rnC x).toArray 36)) w2 → Blk w2 (W.alloc (.cells (rnC x).toArray 36)).heap.size 9 (strCs [nm, sEq, vl]) →
    Hw W b x [nm, sEq, vl] (w2.alloc (.cells #[.slice (some ⟨(W.alloc (.cells (rnC x).toArray 36)).heap.size, 0, none⟩) 3 3] 37)) (W.alloc (.cells (rnC x).toArray 36)).heap.size w2.heap.size) := Lib.hid (fun w2 h1 h2 => hw_of hx h1 h2)
  have h1 : ((triQ nm sEq vl).toList == [116, 114, 117, 101]) = false := by rw [tokB (triQ nm sEq vl) [116, 114, 117, 101] sTrue rfl]; exact decide_eq_false (tri_ne _ _ _)
  have HC : Hid (∀ V gw gv, Hw W b x [nm, sEq, vl] V gw gv → ∀ V', Below V.heap.size V V' → Calls Tryz.prog 116 #[.slice x.fa x.fs.length x.fc, .agg #[.string nm, .string vl]] V' (fun e w' => e = .returned (.bool (x.fs.any (fun y => decide (y.1 = nm) && decide (y.2 = vl)))) ∧ Below V.heap.size V w')) :=
    Lib.hid (fun V gw gv h V' hV => (containsPr_calls b x.fa x.fs.length x.fc x.fs (nm, vl) V' (h.below hV).rd.rd).mono (fun e w' ⟨h1, h2⟩ => ⟨h1, below_call hV h2 (Nat.le_refl _)⟩))
  have HX : Hid (∀ V gw gv, Hw W b x [nm, sEq, vl] V gw gv → Below W.heap.size W V ∧ ∀ V', Below V.heap.size V V' → V'.cell? ⟨W.heap.size, 4, none⟩ = some (.slice x.fa x.fs.length x.fc) ∧ V'.cell? ⟨gv, 0, none⟩ = some (.slice (some ⟨gw, 0, none⟩) 3 3) ∧ V'.cell? ⟨gw, 0, none⟩ = some (.string nm) ∧ V'.cell? ⟨gw, 2, none⟩ = some (.string vl)) :=
    Lib.hid (fun V gw gv h => ⟨h.bw, fun V' hV => have h := h.below hV; ⟨h.c1, h.v0, h.at 0 (by simp), h.at 2 (by simp)⟩⟩)
  obtain ⟨v9, hv9⟩ : ∃ z, x.fs.any (fun y => decide (y.1 = nm) && decide (y.2 = vl)) = z := ⟨_, rfl⟩
  rw [hv9] at HC ⊢
  obtain ⟨l, hl⟩ : ∃ l, triQ nm sEq vl = l := ⟨_, rfl⟩
  rw [hl] at h1 HSP ⊢
  rw [hr0] at HSP HW
  have HS := Lib.hid HSP
  have e9 : (nm.toList == [116, 105, 109, 101]) = false := by rw [tokB nm [116, 105, 109, 101] sTime rfl]; exact decide_eq_false hne.1
  have e8 : (nm.toList == [104, 97, 115]) = false := by rw [tokB nm [104, 97, 115] sHas rfl]; exact decide_eq_false hne.2
  obtain ⟨xid, xwho, xt, xd, xfa, xfc, xfs⟩ := x
  simp only at HC HX HS HW ⊢
  have hz1 : (W.alloc (.cells #[.string xid, .string xwho, .int .i64 xt, .int .i64 xd, .slice xfa xfs.length xfc] 36)).heap.size = W.heap.size + 1 := by simp
  obtain ⟨fl, hfl⟩ : ∃ z, xfs.length = z := ⟨_, rfl⟩
  rw [hfl] at HC HX HS HW hz1 ⊢
  clear hS hv9 hl hx hm HSP hr0
  go_enter Tryz.func94, Tryz.ntmps94
  go_upto_region 2 with (first | (go_at_call 112; refine HS.out.mono ?_; rintro e w2 ⟨rfl, hb2, hk2⟩))
  have hh := HW.out w2 hb2 hk2
  rw [hz1] at hh
  obtain ⟨W3, hw3⟩ : ∃ W3, W3 = w2.alloc (.cells #[.slice (some ⟨W.heap.size + 1, 0, none⟩) 3 3] 37) := ⟨_, rfl⟩
  rw [← hw3] at hh ⊢
  clear hw3 HW hb2 hk2
  obtain ⟨hbw, hxx⟩ := HX.out _ _ _ hh
  have HXX := Lib.hid hxx
  have HCC := Lib.hid (HC.out _ _ _ hh)
  have HBW := Lib.hid hbw
  have S0 : Below W3.heap.size W3 W3 := Below.refl _ _
  have S1 : Below W3.heap.size W3 W3.drew := below_drewN S0 1
  obtain ⟨k0, k1, k2, k3⟩ := HXX.out _ S0
  clear hh HX HC hxx hbw
  go_wp2_with fail
  go_region_held3 (fun V => V.cell? ⟨W.heap.size, 4, none⟩ = some (.slice xfa fl xfc) ∧ V.cell? ⟨w2.heap.size, 0, none⟩ = some (.slice (some ⟨W.heap.size + 1, 0, none⟩) 3 3) ∧ V.cell? ⟨W.heap.size + 1, 0, none⟩ = some (.string nm) ∧ V.cell? ⟨W.heap.size + 1, 2, none⟩ = some (.string vl))
    (first | exact HXX.out _ S1 | exact HXX.out _ S5)
    (first | (go_at_call 116; ((with_reducible refine (HCC.out _ S1).mono ?_); rintro e w5 ⟨rfl, S5⟩)))
  go_wp2_with fail
  go_ret
  exact ⟨rfl, below_call HBW.out S5 (Nat.le_refl _)⟩
set_option maxRecDepth 100000 in
set_option maxHeartbeats 1000000 in
theorem hdqTime_calls (wd vl : ByteArray) (hw : wd = sLt ∨ wd = sGt) (hv : (numF vl).2 = true) (b : Nat) (x : Rn) (W : World) (hx : RnW W b x) (hm : MxL W) :
    Calls Tryz.prog 94 #[.string (triQ sTime wd vl), .agg #[.string x.id, .string x.who, .int .i64 x.time, .int .i64 x.date, .slice x.fa x.fs.length x.fc]] W (BRet (.bool (if wd = sLt then decide (x.time ≠ 0) && decide (x.time < numI vl.data.toList) else decide (numI vl.data.toList < x.time))) W) := by
  have hz2 := numF_z vl hv
  have hr0 : (rnC x).toArray = #[.string x.id, .string x.who, .int .i64 x.time, .int .i64 x.date, .slice x.fa x.fs.length x.fc] := rfl
  have hS := ((Sq.start W).add (rnC x).toArray 36).below
  have HSP := split_calls (triQ sTime wd vl) 32 (W.alloc (.cells (rnC x).toArray 36)) (by rw [tri_size, show sTime.size = 4 from rfl]; rcases hw with rfl | rfl <;> (first | (rw [show sLt.size = 1 from rfl]; omega) | (rw [show sGt.size = 1 from rfl]; omega))) (hm.below hS)
  rw [pcs_tri (by decide) (by rcases hw with rfl | rfl <;> decide) (numF_noBl hv)] at HSP
  unfold SplR at HSP
  have HW : Hid (∀ w2, Below (W.alloc (.cells (rnC x).toArray 36)).heap.size (W.alloc (.cells (rnC x).toArray 36)) w2 → Blk w2 (W.alloc (.cells (rnC x).toArray 36)).heap.size 9 (strCs [sTime, wd, vl]) →
    Hw W b x [sTime, wd, vl] (w2.alloc (.cells #[.slice (some ⟨(W.alloc (.cells (rnC x).toArray 36)).heap.size, 0, none⟩) 3 3] 37)) (W.alloc (.cells (rnC x).toArray 36)).heap.size w2.heap.size) := Lib.hid (fun w2 h1 h2 => hw_of hx h1 h2)
  have h1 : ((triQ sTime wd vl).toList == [116, 114, 117, 101]) = false := by rw [tokB (triQ sTime wd vl) [116, 114, 117, 101] sTrue rfl]; exact decide_eq_false (tri_ne _ _ _)
  have HC := Lib.hid (fun V => Tryz.strconv_Atoi vl (numI vl.data.toList) (by obtain ⟨_, h2, _⟩ := numF_body hv; have := body_len vl.data.toList; have e : vl.data.toList.length = vl.size := (by simp); omega) (atoi_some (numF_body hv).1 (numF_body hv).2.2) V)
  have HX : Hid (∀ V gw gv, Hw W b x [sTime, wd, vl] V gw gv → Below W.heap.size W V ∧ ∀ V', Below V.heap.size V V' → V'.cell? ⟨W.heap.size, 2, none⟩ = some (.int .i64 x.time) ∧ V'.cell? ⟨gv, 0, none⟩ = some (.slice (some ⟨gw, 0, none⟩) 3 3) ∧ V'.cell? ⟨gw, 0, none⟩ = some (.string sTime) ∧ V'.cell? ⟨gw, 1, none⟩ = some (.string wd) ∧ V'.cell? ⟨gw, 2, none⟩ = some (.string vl)) :=
    Lib.hid (fun V gw gv h => ⟨h.bw, fun V' hV => have h := h.below hV; ⟨h.c0, h.v0, h.at 0 (by simp), h.at 1 (by simp), h.at 2 (by simp)⟩⟩)
  obtain ⟨nv, hnv⟩ : ∃ z, numI vl.data.toList = z := ⟨_, rfl⟩
  rw [hnv] at HC ⊢
  obtain ⟨v9, hv9⟩ : ∃ z, (if wd = sLt then decide (x.time ≠ 0) && decide (x.time < nv) else decide (nv < x.time)) = z := ⟨_, rfl⟩
  rw [hv9]
  have HAT := Lib.hid hv9
  obtain ⟨l, hl⟩ : ∃ l, triQ sTime wd vl = l := ⟨_, rfl⟩
  rw [hl] at h1 HSP ⊢
  rw [hr0] at HSP HW
  have HS := Lib.hid HSP
  have e9 : (sTime.toList == [116, 105, 109, 101]) = true := by rw [tokB sTime [116, 105, 109, 101] sTime rfl]; decide
  have HQ : Hid (((wd.toList == [60]) = true ∧ (wd.toList == [62]) = false ∧ wd = sLt) ∨ ((wd.toList == [60]) = false ∧ (wd.toList == [62]) = true ∧ wd ≠ sLt)) := Lib.hid (by
    rw [tokB wd [60] sLt rfl, tokB wd [62] sGt rfl]
    rcases hw with rfl | rfl
    · left; decide
    · right; decide)
  obtain ⟨xid, xwho, xt, xd, xfa, xfc, xfs⟩ := x
  simp only at HAT HX HS HW ⊢
  have hz1 : (W.alloc (.cells #[.string xid, .string xwho, .int .i64 xt, .int .i64 xd, .slice xfa xfs.length xfc] 36)).heap.size = W.heap.size + 1 := by simp
  obtain ⟨fl, hfl⟩ : ∃ z, xfs.length = z := ⟨_, rfl⟩
  rw [hfl] at HS HW hz1 ⊢
  clear hS hv9 hl hx hm HSP hr0 hw hv hz2 hnv
  go_enter Tryz.func94, Tryz.ntmps94
  go_upto_region 2 with (first | (go_at_call 112; refine HS.out.mono ?_; rintro e w2 ⟨rfl, hb2, hk2⟩))
  have hh := HW.out w2 hb2 hk2
  rw [hz1] at hh
  obtain ⟨W3, hw3⟩ : ∃ W3, W3 = w2.alloc (.cells #[.slice (some ⟨W.heap.size + 1, 0, none⟩) 3 3] 37) := ⟨_, rfl⟩
  rw [← hw3] at hh ⊢
  clear hw3 HW hb2 hk2
  obtain ⟨hbw, hxx⟩ := HX.out _ _ _ hh
  have HXX := Lib.hid hxx
  have HBW := Lib.hid hbw
  have S0 : Below W3.heap.size W3 W3 := Below.refl _ _
  obtain ⟨k0, k1, k2, k3, k4⟩ := HXX.out _ S0
  clear hh HX hxx hbw
  rcases HQ.out with ⟨q1, q2, q3⟩ | ⟨q1, q2, q3⟩
  · subst q3
    by_cases h0 : xt = 0
    · have h0b : (xt != 0) = false := by simp [h0]
      clear HQ
      go_wp2_with (first | (go_at_call 113; refine (HC.out _).mono ?_; rintro e w5 ⟨rfl, hb0⟩; have S5 := below_call S0 (bytes_below hb0) (Nat.le_refl _); obtain ⟨m0, m1, m2, m3, m4⟩ := HXX.out _ S5))
      go_ret
      exact ⟨by rw [← HAT.out]; simp [h0], below_call HBW.out S5 (Nat.le_refl _)⟩
    · have h0b : (xt != 0) = true := by simp [h0]
      clear HQ
      by_cases hc : xt < nv
      · go_wp2_with (first | (go_at_call 113; refine (HC.out _).mono ?_; rintro e w5 ⟨rfl, hb0⟩; have S5 := below_call S0 (bytes_below hb0) (Nat.le_refl _); obtain ⟨m0, m1, m2, m3, m4⟩ := HXX.out _ S5))
        go_ret
        exact ⟨by rw [← HAT.out]; simp [h0, hc], below_call HBW.out S5 (Nat.le_refl _)⟩
      · go_wp2_with (first | (go_at_call 113; refine (HC.out _).mono ?_; rintro e w5 ⟨rfl, hb0⟩; have S5 := below_call S0 (bytes_below hb0) (Nat.le_refl _); obtain ⟨m0, m1, m2, m3, m4⟩ := HXX.out _ S5))
        go_ret
        exact ⟨by rw [← HAT.out]; simp [h0], below_call HBW.out S5 (Nat.le_refl _)⟩
  · clear HQ
    by_cases hc : nv < xt
    · go_wp2_with (first | (go_at_call 113; refine (HC.out _).mono ?_; rintro e w5 ⟨rfl, hb0⟩; have S5 := below_call S0 (bytes_below hb0) (Nat.le_refl _); obtain ⟨m0, m1, m2, m3, m4⟩ := HXX.out _ S5))
      go_ret
      exact ⟨by rw [← HAT.out]; simp [q3, hc], below_call HBW.out S5 (Nat.le_refl _)⟩
    · go_wp2_with (first | (go_at_call 113; refine (HC.out _).mono ?_; rintro e w5 ⟨rfl, hb0⟩; have S5 := below_call S0 (bytes_below hb0) (Nat.le_refl _); obtain ⟨m0, m1, m2, m3, m4⟩ := HXX.out _ S5))
      go_ret
      exact ⟨by rw [← HAT.out]; simp [q3], below_call HBW.out S5 (Nat.le_refl _)⟩
set_option maxRecDepth 100000 in
set_option maxHeartbeats 1000000 in
theorem hdqTrue_calls (b : Nat) (x : Rn) (W : World) (hx : RnW W b x) (hm : MxL W) :
    Calls Tryz.prog 94 #[.string sTrue, .agg #[.string x.id, .string x.who, .int .i64 x.time, .int .i64 x.date, .slice x.fa x.fs.length x.fc]] W (BRet (.bool (true)) W) := by
  have hr0 : (rnC x).toArray = #[.string x.id, .string x.who, .int .i64 x.time, .int .i64 x.date, .slice x.fa x.fs.length x.fc] := rfl
  have hS := ((Sq.start W).add (rnC x).toArray 36).below
  have HSP := split_calls sTrue 32 (W.alloc (.cells (rnC x).toArray 36)) (by decide) (hm.below hS)
  rw [pcs_true] at HSP
  unfold SplR at HSP
  have HW : Hid (∀ w2, Below (W.alloc (.cells (rnC x).toArray 36)).heap.size (W.alloc (.cells (rnC x).toArray 36)) w2 → Blk w2 (W.alloc (.cells (rnC x).toArray 36)).heap.size 9 (strCs [sTrue]) →
    Hw W b x [sTrue] (w2.alloc (.cells #[.slice (some ⟨(W.alloc (.cells (rnC x).toArray 36)).heap.size, 0, none⟩) 1 1] 37)) (W.alloc (.cells (rnC x).toArray 36)).heap.size w2.heap.size) := Lib.hid (fun w2 h1 h2 => hw_of hx h1 h2)
  have h1 : (sTrue.toList == [116, 114, 117, 101]) = true := by rw [tokB sTrue [116, 114, 117, 101] sTrue rfl]; decide
  obtain ⟨l, hl⟩ : ∃ l, sTrue = l := ⟨_, rfl⟩
  rw [hl] at h1 HSP HW ⊢
  rw [hr0] at HSP HW
  have HS := Lib.hid HSP
  obtain ⟨xid, xwho, xt, xd, xfa, xfc, xfs⟩ := x
  simp only at HS HW ⊢
  have hz1 : (W.alloc (.cells #[.string xid, .string xwho, .int .i64 xt, .int .i64 xd, .slice xfa xfs.length xfc] 36)).heap.size = W.heap.size + 1 := by simp
  obtain ⟨fl, hfl⟩ : ∃ z, xfs.length = z := ⟨_, rfl⟩
  rw [hfl] at HS HW hz1 ⊢
  clear hS hl hx hm HSP hr0
  go_enter Tryz.func94, Tryz.ntmps94
  go_upto_region 2 with (first | (go_at_call 112; refine HS.out.mono ?_; rintro e w2 ⟨rfl, hb2, hk2⟩))
  have hh := HW.out w2 hb2 hk2
  rw [hz1] at hh
  obtain ⟨W3, hw3⟩ : ∃ W3, W3 = w2.alloc (.cells #[.slice (some ⟨W.heap.size + 1, 0, none⟩) 1 1] 37) := ⟨_, rfl⟩
  rw [← hw3] at hh ⊢
  clear hw3 HW hb2 hk2
  have hbw := hh.bw
  clear hh
  go_wp2_with fail
  go_ret
  exact ⟨rfl, hbw⟩
/-- what splitref2.holds answers of the text of an atom that was read -/
theorem holdsQ_calls {a : Atm} (ha : AtmOk numF a) (b : Nat) (x : Rn) (W : World) (hx : RnW W b x) (hm : MxL W) :
    Calls Tryz.prog 94 #[.string (txtA a), .agg #[.string x.id, .string x.who, .int .i64 x.time, .int .i64 x.date, .slice x.fa x.fs.length x.fc]] W (BRet (.bool (isH x.time x.fs (txtA a))) W) := by
  obtain ⟨wd, nm, vl, n⟩ := a
  unfold txtA
  rcases ha with ⟨h, _⟩ | ⟨h, h1, _⟩ | ⟨h, h1, h2⟩ | ⟨h, _, h1, h2, _⟩ <;> simp only at *
  · rw [if_pos h, isH_true]
    exact hdqTrue_calls b x W hx hm
  · subst h
    rw [if_neg (by decide), if_pos rfl, isH_has _ _ (name_noBl h1)]
    exact hdqHas_calls nm (name_noBl h1) (name_le h1) b x W hx hm
  · subst h
    rw [if_neg (by decide), if_neg (by decide), if_pos rfl, isH_eq _ _ (name_noBl h1) (value_noBl h2) (name_ne h1).1]
    exact hdqEq_calls nm vl (name_noBl h1) (value_noBl h2) ⟨(name_ne h1).1, (name_ne h1).2.1⟩ (name_le h1) (value_le h2) b x W hx hm
  · have hw : wd ≠ sTrue ∧ wd ≠ sHas ∧ wd ≠ sEq := by rcases h with rfl | rfl <;> decide
    rw [if_neg hw.1, if_neg hw.2.1, if_neg hw.2.2, isH_time _ _ (by rcases h with rfl | rfl <;> decide) (numF_noBl h1)]
    exact hdqTime_calls wd vl h h1 b x W hx hm
end Go.Proofs.YtlkapcjofgpiiaaGreatDoor
/-
  What HoldsFor and WhyOf answer of right arguments: what Holds and Why do; ruleFault by a contract.
-/
namespace Go.Proofs.YtlkapcjofgpiiaaGreatDoor
open Go Go.RowKit TxtP
attribute [local go_sem ↓] Go.wp_at_zero Go.wp_at_succ

theorem svB_strs (ls : List BL) : svB ls = (ls.map fun x => (⟨x.toArray⟩ : ByteArray)).map Value.string := by
  unfold svB
  rw [List.map_map]
  rfl
theorem hdqH_of {t : Nd} (hok : NdOk numF t) (x : Rn) (b : Nat) (w0 : World) (hm : MxL w0) : HdqH (fun l => ∃ a ∈ atsF t, txtA a = l) (isH x.time x.fs) b x w0 := by
  rintro l W ⟨a, ha, rfl⟩ hW hx
  exact holdsQ_calls (ats_ok hok a ha) b x W hx (hm.below hW)
theorem rulE_zero {num : ByteArray → Int × Bool} {s : ByteArray} {x : Rn} (h : rulE num s x = 0) : (parseE num s).2 = 0 ∧ runF x = 0 := by
  unfold rulE at h
  split at h
  · rename_i h1; exact ⟨h1, h⟩
  · rename_i h1; exact absurd h h1
theorem hdq_atoms {s : ByteArray} {x : Rn} (h : rulE numF s x = 0) : ∀ a ∈ atsF (parseT numF s).1, isH x.time x.fs (txtA a) = atP x.time x.fs a := by
  obtain ⟨h1, h2⟩ := rulE_zero h
  have hok := ((check_parse numF numF_ok s).2 h1).1
  exact fun a ha => isH_atP (ats_ok hok a ha) (runF_fld0 h2)
theorem holdsForV_calls (s : ByteArray) (b : Nat) (x : Rn) (w : World) (hs : s.size ≤ 90000) (h0 : rulE numF s x = 0) (hx : RnW w b x) (hm : MxL w) :
    Calls Tryz.prog 66 #[.string s, .agg #[.string x.id, .string x.who, .int .i64 x.time, .int .i64 x.date, .slice x.fa x.fs.length x.fc]] w (BRet (.bool (hldV numF s x)) w) := by
  obtain ⟨h1, h2⟩ := rulE_zero h0
  have hok := ((check_parse numF numF_ok s).2 h1).1
  rw [hld_both numF_ok numF_z (isH x.time x.fs) h0 h1 (hdq_atoms h0)]
  exact holdsFor_calls numF numF_ok s b x w hs h1 hx _ (fun w0 hb => hdqH_of hok x b w0 (hm.below hb))
end Go.Proofs.YtlkapcjofgpiiaaGreatDoor
/-
  Versions of rules: what is wrong with them, which rule holds at a moment, what a run counts for, what is lost, in plain words. No Go text is walked here.
-/
namespace Go.Proofs.YtlkapcjofgpiiaaGreatDoor
open Go Go.RowKit TxtP

theorem bl_tri (a b : ByteArray) : (Op.bytesLess a.toList b.toList = true ∧ (a.toList == b.toList) = false ∧ Op.bytesLess b.toList a.toList = false) ∨
    (Op.bytesLess a.toList b.toList = false ∧ (a.toList == b.toList) = true ∧ Op.bytesLess b.toList a.toList = false) ∨
    (Op.bytesLess a.toList b.toList = false ∧ (a.toList == b.toList) = false ∧ Op.bytesLess b.toList a.toList = true) := by
  simp only [bytesLess_eq, decide_eq_true_eq, decide_eq_false_iff_not, beq_eq_false_iff_ne, beq_iff_eq]
  by_cases h : a.toList = b.toList
  · rw [h]
    exact .inr (.inl ⟨List.lt_irrefl _, rfl, List.lt_irrefl _⟩)
  · by_cases h1 : a.toList < b.toList
    · exact .inl ⟨h1, h, fun h2 => List.lt_irrefl _ (List.lt_trans h1 h2)⟩
    · exact .inr (.inr ⟨h1, h, Decidable.byContradiction fun h2 => h (List.le_antisymm (List.not_lt.1 h2) (List.not_lt.1 h1))⟩)
/-- a version: a category, from when, and its rule -/
structure Vr where
  c : ByteArray
  f : Int
  r : ByteArray
def vrC (v : Vr) : List Value := [.string v.c, .int .i64 v.f, .string v.r]
theorem vrC_len (v : Vr) : (vrC v).length = 3 := rfl
structure VrW (v : Vr) : Prop where
  hc : v.c.size ≤ 1000000
  hr : v.r.size ≤ 90000
structure Vrs (w : World) (b : Nat) (A : Option Addr) (n c : Nat) (vs : List Vr) : Prop where
  rd : Rd w b 3 (.slice A n c) n (vs.flatMap vrC)
  ok : ∀ v ∈ vs, VrW v
theorem Vrs.below {w w' : World} {b n c : Nat} {A : Option Addr} {vs : List Vr} (h : Vrs w b A n c vs) (k : Below w.heap.size w w') : Vrs w' b A n c vs := ⟨h.rd.below k, h.ok⟩
theorem Vrs.bx {w w' : World} {b n c : Nat} {A : Option Addr} {vs : List Vr} (h : Vrs w b A n c vs) (k : Bx w.heap.size b w w') : Vrs w' b A n c vs := ⟨h.rd.bx k, h.ok⟩
/-- is this string empty, as the program asks it? -/
def isE (r : ByteArray) : Bool := r.toList.isEmpty
theorem nil_toList : (⟨#[]⟩ : ByteArray).toList = [] := by rw [Lib.toList_data]
theorem isE_beq (r : ByteArray) : (r.toList == (⟨#[]⟩ : ByteArray).toList) = isE r := by
  rw [nil_toList]
  unfold isE
  cases r.toList <;> rfl
theorem isE_nil : isE ⟨#[]⟩ = true := by
  unfold isE
  rw [nil_toList]
  rfl
def ordV (o v : Vr) : Bool := Op.bytesLess v.c.toList o.c.toList || (v.c.toList == o.c.toList && decide (v.f ≤ o.f))
def befV : Option Vr → Vr → ByteArray
  | none, _ => ⟨#[]⟩
  | some o, v => if (v.c.toList == o.c.toList) = true then o.r else ⟨#[]⟩
def ordO : Option Vr → Vr → Bool
  | none, _ => false
  | some o, v => ordV o v
/-- what is wrong with a version's rule -/
def rulV (r : ByteArray) : Int := if isE r = true then 0 else (parseE numF r).2
def versG : Option Vr → List Vr → Int
  | _, [] => 0
  | last, v :: vs => if keyB v.c.data.toList = true then if momB v.f = true then if rulV v.r = 0 then if ordO last v = true then 7 else if (v.r.toList == (befV last v).toList) = true then 3 else versG (some v) vs else rulV v.r else 1 else 5
def versF (vs : List Vr) : Int := if 200 < vs.length then 2 else versG none vs
/-- the version ahead of place k -/
def lastV (vs : List Vr) (k : Nat) : Option Vr := match k with | 0 => none | k + 1 => vs[k]?
theorem versG_step (vs : List Vr) (k : Nat) (hk : k < vs.length) : versG (lastV vs k) (vs.drop k) =
    if keyB vs[k].c.data.toList = true then if momB vs[k].f = true then if rulV vs[k].r = 0 then if ordO (lastV vs k) vs[k] = true then 7 else if (vs[k].r.toList == (befV (lastV vs k) vs[k]).toList) = true then 3 else versG (lastV vs (k + 1)) (vs.drop (k + 1)) else rulV vs[k].r else 1 else 5 := by
  rw [List.drop_eq_getElem_cons hk, versG]
  have : lastV vs (k + 1) = some vs[k] := by simp [lastV, hk]
  rw [this]
/-- the rule of a category at a moment -/
def rulA : List Vr → ByteArray → Int → ByteArray → ByteArray
  | [], _, _, out => out
  | v :: vs, c, t, out => rulA vs c t (if (v.c.toList == c.toList && decide (v.f ≤ t)) = true then v.r else out)
theorem rulA_step (vs : List Vr) (c : ByteArray) (t : Int) (out : ByteArray) (k : Nat) (hk : k < vs.length) :
    rulA (vs.drop k) c t out = rulA (vs.drop (k + 1)) c t (if (vs[k].c.toList == c.toList && decide (vs[k].f ≤ t)) = true then vs[k].r else out) := by
  rw [List.drop_eq_getElem_cons hk, rulA]
def rulAt (vs : List Vr) (c : ByteArray) (t : Int) : ByteArray := rulA vs c t ⟨#[]⟩
/-- does a run count for a category? -/
def cntV (vs : List Vr) (c : ByteArray) (x : Rn) : Bool := !isE (rulAt vs c x.date) && hldV numF (rulAt vs c x.date) x
/-- is a version the first of its category? -/
def fstO : Option Vr → Vr → Bool
  | none, _ => true
  | some o, v => !(o.c.toList == v.c.toList)
def cntG (all : List Vr) (x : Rn) : Option Vr → List Vr → List ByteArray
  | _, [] => []
  | last, v :: vs => (if (fstO last v && cntV all v.c x) = true then [v.c] else []) ++ cntG all x (some v) vs
theorem cntG_step (all : List Vr) (x : Rn) (vs : List Vr) (k : Nat) (hk : k < vs.length) : cntG all x (lastV vs k) (vs.drop k) =
    (if (fstO (lastV vs k) vs[k] && cntV all vs[k].c x) = true then [vs[k].c] else []) ++ cntG all x (lastV vs (k + 1)) (vs.drop (k + 1)) := by
  rw [List.drop_eq_getElem_cons hk, cntG]
  have : lastV vs (k + 1) = some vs[k] := by simp [lastV, hk]
  rw [this]
def cntL (vs : List Vr) (x : Rn) : List ByteArray := cntG vs x none vs
/-- what Counts says is wrong -/
def cntE (vs : List Vr) (x : Rn) : Int := if versF vs = 0 then runF x else versF vs
/-- the rules of versions that are right -/
def RgtV (vs : List Vr) : Prop := ∀ v ∈ vs, isE v.r = false → (parseE numF v.r).2 = 0
theorem versG_rgt : ∀ (last : Option Vr) (vs : List Vr), versG last vs = 0 → (∀ v ∈ vs, keyB v.c.data.toList = true ∧ momB v.f = true ∧ rulV v.r = 0)
  | _, [], _ => fun v hv => by cases hv
  | last, v :: vs, h => by
    rw [versG] at h
    by_cases h1 : keyB v.c.data.toList = true
    · rw [if_pos h1] at h
      by_cases h2 : momB v.f = true
      · rw [if_pos h2] at h
        by_cases h3 : rulV v.r = 0
        · rw [if_pos h3] at h
          by_cases h4 : ordO last v = true
          · rw [if_pos h4] at h; cases h
          · rw [if_neg h4] at h
            by_cases h5 : (v.r.toList == (befV last v).toList) = true
            · rw [if_pos h5] at h; cases h
            · rw [if_neg h5] at h
              intro u hu
              rcases List.mem_cons.1 hu with rfl | hu
              · exact ⟨h1, h2, h3⟩
              · exact versG_rgt _ _ h u hu
        · rw [if_neg h3] at h; exact absurd h h3
      · rw [if_neg h2] at h; cases h
    · rw [if_neg h1] at h; cases h
theorem versF_rgt {vs : List Vr} (h : versF vs = 0) : vs.length ≤ 200 ∧ (∀ v ∈ vs, keyB v.c.data.toList = true ∧ momB v.f = true ∧ rulV v.r = 0) := by
  unfold versF at h
  split at h
  · cases h
  · exact ⟨by omega, versG_rgt _ _ h⟩
theorem versF_rules {vs : List Vr} (h : versF vs = 0) : RgtV vs := fun v hv he => by
  have := ((versF_rgt h).2 v hv).2.2
  unfold rulV at this
  rwa [he, if_neg (by decide)] at this
theorem rulA_mem : ∀ (vs : List Vr) (c : ByteArray) (t : Int) (out : ByteArray), rulA vs c t out = out ∨ ∃ v ∈ vs, rulA vs c t out = v.r
  | [], _, _, _ => .inl rfl
  | v :: vs, c, t, out => by
    rw [rulA]
    rcases rulA_mem vs c t (if (v.c.toList == c.toList && decide (v.f ≤ t)) = true then v.r else out) with h | ⟨u, hu, h⟩
    · rw [h]
      split
      · exact .inr ⟨v, List.mem_cons_self .., rfl⟩
      · exact .inl rfl
    · exact .inr ⟨u, List.mem_cons_of_mem _ hu, h⟩
theorem rulAt_rgt {vs : List Vr} (h : RgtV vs) (c : ByteArray) (t : Int) (he : isE (rulAt vs c t) = false) : (parseE numF (rulAt vs c t)).2 = 0 := by
  rcases rulA_mem vs c t ⟨#[]⟩ with h1 | ⟨v, hv, h1⟩
  · unfold rulAt at he
    rw [h1, isE_nil] at he
    cases he
  · unfold rulAt at he ⊢
    rw [h1] at he ⊢
    exact h v hv he
theorem rulAt_size {vs : List Vr} (h : ∀ v ∈ vs, VrW v) (c : ByteArray) (t : Int) : (rulAt vs c t).size ≤ 90000 := by
  unfold rulAt
  rcases rulA_mem vs c t ⟨#[]⟩ with h1 | ⟨v, hv, h1⟩
  · rw [h1]; exact Nat.zero_le _
  · rw [h1]; exact (h v hv).hr
end Go.Proofs.YtlkapcjofgpiiaaGreatDoor

/-
  The stream's SomeRun to the letter. (Printed by gen_srnx.py.)
-/
import Derived.Test.YthbcogekfdllmaaGreatDoorZCntS
import Derived.Test.YthbcogekfdllmaaGreatDoorZSrn1
import Derived.Test.YthbcogekfdllmaaGreatDoorZSmX
import Derived.Deep.RegionHeld3
import Derived.Deep.DeepCutAuto
namespace Go.Proofs.YthbcogekfdllmaaGreatDoor
open Go Go.RowKit TxtP

def kabcX : List ByteArray := [⟨#[97]⟩, ⟨#[98]⟩, ⟨#[99]⟩]
def whoX : List ByteArray := [⟨#[97, 110, 110]⟩, ⟨#[98, 101, 97]⟩]
def valX : List ByteArray := [⟨#[120]⟩, ⟨#[121]⟩, ⟨#[49, 46, 50]⟩]
def d5X : List ByteArray := [⟨#[100]⟩, ⟨#[97]⟩, ⟨#[116, 105, 109, 101]⟩, ⟨#[111, 114]⟩, ⟨#[]⟩]
def d4X : List ByteArray := [⟨#[120]⟩, ⟨#[]⟩, ⟨#[65]⟩, ⟨#[110, 111, 116]⟩]
def tiX : List Int := [0, 400, 500, 501, 900]
def daX : List Int := [0, 10, 50, 99, 100, 200]
theorem kabcX_at (k : Nat) (hk : k < 3) : ∃ s, (#[.string ⟨#[97]⟩, .string ⟨#[98]⟩, .string ⟨#[99]⟩] : Array Value)[k]? = some (.string s) ∧ s.size ≤ 1000 ∧ kabcX[k]? = some s := by
  rcases (show k = 0 ∨ k = 1 ∨ k = 2 by omega) with rfl | rfl | rfl <;> exact ⟨_, rfl, by decide, rfl⟩
/-- the fields after j flips from position p on, and the position -/
def fsX (zs : ZsT) (p : Nat) : Nat → Nat × List Pr
  | 0 => (p, [])
  | j + 1 => if (nxX zs (fsX zs p j).1 2 == 0) = true then ((fsX zs p j).1 + 1 + 1, (fsX zs p j).2 ++ [(kabcX[j]?.getD ⟨#[]⟩, smX zs ((fsX zs p j).1 + 1) valX)]) else ((fsX zs p j).1 + 1, (fsX zs p j).2)
theorem fsX_no {zs : ZsT} {p j r : Nat} {fs : List Pr} (h : fsX zs p j = (r, fs)) (hf : (nxX zs r 2 == 0) = false) : fsX zs p (j + 1) = (r + 1, fs) := by
  rw [fsX, h, if_neg (by rw [hf]; decide)]
theorem fsX_yes {zs : ZsT} {p j r : Nat} {fs : List Pr} {h s : ByteArray} (hk : kabcX[j]? = some h) (h0 : fsX zs p j = (r, fs)) (hf : (nxX zs r 2 == 0) = true) (hs : smX zs (r + 1) valX = s) : fsX zs p (j + 1) = (r + 1 + 1, fs ++ [(h, s)]) := by
  rw [fsX, h0, if_pos hf, hk, hs]
  rfl
/-- a run, and the position behind it -/
def srX (zs : ZsT) (p : Nat) (id : ByteArray) : Nat × CntR :=
  if (nxX zs (fsX zs (p + 3) 3).1 25 == 0) = true then
    if nxX zs ((fsX zs (p + 3) 3).1 + 1) 4 = 0 then ((fsX zs (p + 3) 3).1 + 1 + 1 + 1 + 1, smX zs ((fsX zs (p + 3) 3).1 + 1 + 1) [id, ⟨#[]⟩, ⟨#[65]⟩], smX zs ((fsX zs (p + 3) 3).1 + 1 + 1 + 1) [⟨#[97, 110, 110]⟩, ⟨#[]⟩], pkX zs (p + 1) tiX, pkX zs (p + 1 + 1) daX, (fsX zs (p + 3) 3).2)
    else if nxX zs ((fsX zs (p + 3) 3).1 + 1) 4 = 1 then ((fsX zs (p + 3) 3).1 + 1 + 1 + 2 + 2, id, smX zs p whoX, oddX zs ((fsX zs (p + 3) 3).1 + 1 + 1) 0 864000000, oddX zs ((fsX zs (p + 3) 3).1 + 1 + 1 + 2) 0 500, (fsX zs (p + 3) 3).2)
    else ((fsX zs (p + 3) 3).1 + 1 + 1 + 1 + 1, id, smX zs p whoX, pkX zs (p + 1) tiX, pkX zs (p + 1 + 1) daX, (fsX zs (p + 3) 3).2 ++ [(smX zs ((fsX zs (p + 3) 3).1 + 1 + 1) d5X, smX zs ((fsX zs (p + 3) 3).1 + 1 + 1 + 1) d4X)])
  else ((fsX zs (p + 3) 3).1 + 1, id, smX zs p whoX, pkX zs (p + 1) tiX, pkX zs (p + 1 + 1) daX, (fsX zs (p + 3) 3).2)
/-- what a run's walk has drawn so far -/
structure SrH (zs : ZsT) (p : Nat) (who : ByteArray) (ti da : Int) (r : Nat) (fs : List Pr) : Prop where
  w : smX zs p whoX = who
  t : pkX zs (p + 1) tiX = ti
  d : pkX zs (p + 1 + 1) daX = da
  f : fsX zs (p + 3) 3 = (r, fs)
section
variable {zs : ZsT} {p r : Nat} {id who : ByteArray} {ti da : Int} {fs : List Pr}
theorem srX_a (h : SrH zs p who ti da r fs) (hf : (nxX zs r 25 == 0) = false) : srX zs p id = (r + 1, id, who, ti, da, fs) := by
  unfold srX
  rw [h.f, h.w, h.t, h.d]
  simp only [hf]
  rfl
theorem srX_0 {i2 w2 : ByteArray} (h : SrH zs p who ti da r fs) (hf : (nxX zs r 25 == 0) = true) (hq : nxX zs (r + 1) 4 = 0) (h1 : smX zs (r + 1 + 1) [id, ⟨#[]⟩, ⟨#[65]⟩] = i2) (h2 : smX zs (r + 1 + 1 + 1) [⟨#[97, 110, 110]⟩, ⟨#[]⟩] = w2) : srX zs p id = (r + 1 + 1 + 1 + 1, i2, w2, ti, da, fs) := by
  unfold srX
  rw [h.f, h.w, h.t, h.d]
  simp only [hf, hq, h1, h2]
  rfl
theorem srX_1 {t2 d2 : Int} (h : SrH zs p who ti da r fs) (hf : (nxX zs r 25 == 0) = true) (hq : nxX zs (r + 1) 4 = 1) (h1 : oddX zs (r + 1 + 1) 0 864000000 = t2) (h2 : oddX zs (r + 1 + 1 + 2) 0 500 = d2) : srX zs p id = (r + 1 + 1 + 2 + 2, id, who, t2, d2, fs) := by
  unfold srX
  rw [h.f, h.w, h.t, h.d]
  simp only [hf, hq, h1, h2]
  rfl
theorem srX_2 {q : Int} {a c : ByteArray} (h : SrH zs p who ti da r fs) (hf : (nxX zs r 25 == 0) = true) (hq : nxX zs (r + 1) 4 = q) (q0 : ¬ q = 0) (q1 : ¬ q = 1) (h1 : smX zs (r + 1 + 1) d5X = a) (h2 : smX zs (r + 1 + 1 + 1) d4X = c) : srX zs p id = (r + 1 + 1 + 1 + 1, id, who, ti, da, fs ++ [(a, c)]) := by
  unfold srX
  rw [h.f, h.w, h.t, h.d]
  simp only [hf, hq, h1, h2, if_neg q0, if_neg q1]
  rfl
end
/-- a run drawn, its fields in new memory, to the letter -/
def RunX (zs : ZsT) (b p : Nat) (id : ByteArray) (w : World) (e : Ending) (w' : World) : Prop :=
  ∃ (x : Rn) (r : Nat), e = .returned (.agg #[.string x.id, .string x.who, .int .i64 x.time, .int .i64 x.date, .slice x.fa x.fs.length x.fc]) ∧ RnZ x ∧ srX zs p id = (r, cntR x) ∧ r ≤ p + 20 ∧ SpX zs w b r w' [fldR w.heap.size x]
theorem id3_sz {id : ByteArray} (h : id.size ≤ 1000) : ∀ x ∈ [id, ⟨#[]⟩, ⟨#[65]⟩], x.size ≤ 1000 := by
  intro x hx
  simp only [List.mem_cons, List.not_mem_nil, or_false] at hx
  rcases hx with rfl | rfl | rfl
  · exact h
  · decide
  · decide
/-- one more field of a run, in a stream's walk -/
theorem step_app_spx {zs : ZsT} {w0 V : World} {b K0 : Nat} {vs : List Value} {L : List Rsc} {A : Option Addr} {n c : Nat} {ys : List Value} {gl : Nat} {ops : Array Oper} {o : Oper} {a : Act} {K : Act → World → Prop} {Q : Exit → Act → World → Prop} {E : Prop} (hgd : o.guard = none) (s y : Operand) (ho : o.op = .call { callee := .builtin .append, args := #[s, y], argTypes := #[45, 45] })
    (hl : vs.length = 2) (h1 : ∀ u ∈ vs, u.oneCell' = true) (hT : SpX zs w0 b K0 V (rBlk gl 75 vs.toArray :: rOwn w0.heap.size 75 2 (.slice A n c) n ys :: L)) (hn : n ≤ 200000) (hs : a.eval s = .slice A n c) (hx : a.eval y = .slice (some ⟨gl, 0, none⟩) 1 1)
    (h : ∀ A' c' V', SpX zs w0 b K0 V' (rOwn w0.heap.size 75 2 (.slice A' (n + 1) c') (n + 1) (ys ++ vs) :: L) → K (a.put o.dst (.slice A' (n + 1) c')) V') :
    if Region.wanted o (yielded ops a.tmps) = true then Oper.wp Tryz.prog o a V K Q else E := by
  obtain ⟨i0, hi, hz0, hz1, hz2⟩ := info_parts info_prR
  have hw : Region.wanted o (yielded ops a.tmps) = true := by simp [Region.wanted, hgd]
  rw [if_pos hw]
  have hb' : Blk V gl 75 vs.toArray := hT.head
  have hS1 := hT.tail
  have hown : V.ownsRow w0.heap.size 75 2 (.slice A n c) n ys := hS1.head
  have hr : Rd V b 2 (.slice (some ⟨gl, 0, none⟩) 1 1) 1 vs := by
    have := blkRd (b := b) 2 1 hb' (hT.ne 0 rfl) (by decide) (by simp [hl])
    simpa using this
  refine wp_app_rd V s y 45 ho w0.heap.size 75 i0 (.agg #[.string ⟨#[]⟩, .string ⟨#[]⟩]) 2 32 Tryz.underlying45 hi hz0 hz1 hz2 rfl (by decide) _ n _ hs hown b _ 1 1 vs hx hr h1 (by unfold maxLen; omega) (by omega) hT.size ?_
  intro v' w' h1 h2 h3
  obtain ⟨A', c', rfl⟩ := own_form h1
  exact h A' c' w' (hS1.append h1 h2 h3)

set_option maxRecDepth 100000 in
set_option maxHeartbeats 8000000 in
theorem someRunX_calls (b p : Nat) (zs : ZsT) (id0 : ByteArray) (w : World) (hs : StrmX w b zs p) (hK : p ≤ 800000) (hid0 : id0.size ≤ 1000) :
    Calls Tryz.prog 85 #[.pointer (some ⟨b, 0, none⟩), .string id0] w (RunX zs b p id0 w) := by
  have hS0 := (SpX.start hs).add #[.string ⟨#[]⟩, .string ⟨#[]⟩, .int .i64 0, .int .i64 0, .slice none 0 0] 101
  clear hs
  go_enter Tryz.func85, Tryz.ntmps85
  go_wp2_with fail
  have hS1 := hS0.add #[.string ⟨#[97, 110, 110]⟩, .string ⟨#[98, 101, 97]⟩] 9
  simp only [size1] at hS1
  refine (spE_someN 1000 hS1 0 whoX rfl rfl (by decide) (by decide) rfl (by decide) (by omega)).mono ?_
  rintro e w2 ⟨who0, rfl, HNW, hw0, hS2⟩
  replace hS2 := hS2.tail
  clear hS0 hS1
  go_wp2_with fail
  refine (spE_pickL hS2 tiX 0 900 #[.int .i64 0, .int .i64 400, .int .i64 500, .int .i64 501, .int .i64 900] 3 5 rfl (by decide) (by decide) rfl (by decide) (by decide) (by omega)).mono ?_
  rintro e w3 ⟨ti0, rfl, HTI, ht0, ht1, hS3⟩
  clear hS2
  go_wp2_with fail
  refine (spE_pickL hS3 daX 0 200 #[.int .i64 0, .int .i64 10, .int .i64 50, .int .i64 99, .int .i64 100, .int .i64 200] 3 6 rfl (by decide) (by decide) rfl (by decide) (by decide) (by omega)).mono ?_
  rintro e w4 ⟨da0, rfl, HDA, hd0, hd1, hS4⟩
  clear hS3
  have hS5 := ((((hS4.add #[.string id0, .string who0, .int .i64 ti0, .int .i64 da0, .slice none 0 0] 101).nil w.heap.size 75 2).add #[.string ⟨#[97]⟩, .string ⟨#[98]⟩, .string ⟨#[99]⟩] 9))
  simp only [size1] at hS5
  clear hS4
  go_wp2_with fail
  go_loopw [21] (fun i wr => ∃ (j n r : Nat) (A : Option Addr) (c : Nat) (fs : List Pr), j ≤ 3 ∧ i = .int .i64 j ∧ fs.length = n ∧ n ≤ j ∧ (∀ p ∈ fs, p.1.size ≤ 1000 ∧ p.2.size ≤ 1000) ∧ Hid (fsX zs (p + 3) j = (r, fs)) ∧ r ≤ p + 3 + 2 * j ∧ SpX zs w b r wr [rBlk (w4.heap.size + 1) 9 #[.string ⟨#[97]⟩, .string ⟨#[98]⟩, .string ⟨#[99]⟩], rOwn w.heap.size 75 2 (.slice A n c) n (fs.flatMap prC), rBlk w4.heap.size 101 #[.string id0, .string who0, .int .i64 ti0, .int .i64 da0, .slice A n c], rBlk w.heap.size 101 #[.string ⟨#[]⟩, .string ⟨#[]⟩, .int .i64 0, .int .i64 0, .slice none 0 0]]) (fun i _ => 3 - (intOf i).toNat)
  case atStart => exact ⟨0, 0, p + 3, none, 0, [], by omega, rfl, rfl, by omega, (by intro x hx; cases hx), Lib.hid rfl, by omega, hS5⟩
  case round =>
    clear hS5
    obtain ⟨j, n, r, A, c, fs, hj3, rfl, hnf, hnj, hfz, HP, hrp, hS⟩ := hrel
    obtain ⟨g, hg⟩ : ∃ g, g = w4.heap.size := ⟨_, rfl⟩
    rw [← hg] at hS ⊢
    clear hg
    obtain ⟨id, hid⟩ : ∃ id, id = id0 := ⟨_, rfl⟩
    obtain ⟨who, hwho⟩ : ∃ who, who = who0 := ⟨_, rfl⟩
    obtain ⟨ti, hti⟩ : ∃ ti, ti = ti0 := ⟨_, rfl⟩
    obtain ⟨da, hda⟩ : ∃ da, da = da0 := ⟨_, rfl⟩
    subst hid hwho hti hda
    have hn2 : n ≤ 200000 := by omega
    by_cases hjl : j < 3
    · obtain ⟨h, hcs, hhs, hhl⟩ := kabcX_at j hjl
      have HHL := Lib.hid hhl
      clear hhl
      have c0 := ((hS.nth 0 rfl : Blk wr (g + 1) 9 #[.string ⟨#[97]⟩, .string ⟨#[98]⟩, .string ⟨#[99]⟩]).cell j).trans hcs
      have hj0 : (0 : Int) ≤ (j : Int) := by omega
      have hj5 : (j : Int) < 3 := by omega
      clear hcs
      go_wp2_with fail
      refine (spE_flip hS 2 (by omega) (by omega) (by omega)).mono ?_
      rintro e w5 ⟨fv, rfl, HFV, hS5⟩
      clear c0 hS
      have hS := hS5
      clear hS5
      cases fv
      · go_wp2_with fail
        go_roundw
        case rel => exact ⟨j + 1, n, r + 1, A, c, fs, by omega, by go_num, hnf, by omega, hfz, Lib.hid (fsX_no HP.out HFV.out), by omega, hS⟩
        case measure => simp [intOf]; omega
      · go_upto_region 6 with (fail)
        refine wp_region_held_drew (S := fun _ => True) (by kernel_rfl) trivial (fun hHeld => ?_)
        refine wpAnyH_take (i := 0) (v := .pointer (some ⟨g, 4, none⟩)) rfl (by kernel_rfl) (by kernel_rfl) (by kernel_rfl) (fun _ _ _ h => h) (Or.inl ⟨by rfl, fun V hV => ?_⟩) hHeld ?_
        · first | (go_simp; done) | (go_simp; rfl) | rfl
        simp only [Act.put]
        refine wpAnyH_take (i := 2) (v := .string h) rfl (by kernel_rfl) (by kernel_rfl) (by kernel_rfl) (fun _ _ _ h => h) (Or.inl ⟨by rfl, fun V hV => ?_⟩) hHeld ?_
        · first | (go_simp; done) | (go_simp; rfl) | rfl
        simp only [Act.put]
        refine wpAnyH_take (i := 3) (v := .pointer (some ⟨b, 0, none⟩)) rfl (by kernel_rfl) (by kernel_rfl) (by kernel_rfl) (fun _ _ _ h => h) (Or.inl ⟨by rfl, fun V hV => ?_⟩) hHeld ?_
        · first | (go_simp; done) | (go_simp; rfl) | rfl
        simp only [Act.put]
        refine wpAnyH_ready (rs := [1, 4]) (by kernel_rfl) (by simp) ?_
        refine AllReadyH.cons rfl (fun KK hK => ?_) ?_
        · have y4 := (hS.nth 2 rfl : Blk _ g _ #[.string id, .string who, .int .i64 ti, .int .i64 da, .slice A n c]).cell 4
          go_simp
          refine hK.out _ _ trivial (fun hHeld => ?_)
          try simp only [Act.put]
          refine wpAnyH_ready (rs := [4]) (by kernel_rfl) (by simp) ?_
          refine AllReadyH.cons rfl (fun KK hK => ?_) AllReadyH.nil
          go_simp
          refine hK.out _ _ trivial (fun hHeld => ?_)
          try simp only [Act.put]
          have hR2 := hS.add #[.string ⟨#[120]⟩, .string ⟨#[121]⟩, .string ⟨#[49, 46, 50]⟩] 9
          try simp only [size1] at hR2
          refine wpAnyH_ready (rs := [5]) (by kernel_rfl) (by simp) ?_
          refine AllReadyH.cons rfl (fun KK hK => ?_) AllReadyH.nil
          go_simp
          go_at_call 45
          refine (spE_someN 1000 hR2.drew 0 valX rfl rfl (by decide) (by decide) rfl (by decide) (by omega)).mono ?_
          rintro e w3 ⟨s3, rfl, HS3, hs3, hR3⟩
          refine hK.out _ _ trivial (fun hHeld => ?_)
          try simp only [Act.put]
          replace hR3 := hR3.drop 0 rfl rfl
          clear hR2
          refine wpAnyH_take (i := 6) (v := .agg #[.string h, .string s3]) rfl (by kernel_rfl) (by kernel_rfl) (by kernel_rfl) (fun _ _ _ h => h) (Or.inl ⟨by rfl, fun V hV => ?_⟩) hHeld ?_
          · first | (go_simp; done) | (go_simp; rfl) | rfl
          simp only [Act.put]
          refine wpAnyH_ready (rs := [7]) (by kernel_rfl) (by simp) ?_
          refine AllReadyH.cons rfl (fun KK hK => ?_) AllReadyH.nil
          go_simp
          refine hK.out _ _ trivial (fun hHeld => ?_)
          try simp only [Act.put]
          have hR4 := hR3.add #[.string h, .string s3] 75
          try simp only [size1] at hR4
          clear hR3
          refine wpAnyH_ready (rs := [8]) (by kernel_rfl) (by simp) ?_
          refine AllReadyH.cons rfl (fun KK hK => ?_) AllReadyH.nil
          have hRo := (hR4.front 2 rfl rfl).front 1 rfl rfl
          refine step_app_spx rfl _ _ rfl rfl (one2r rfl rfl) hRo hn2 rfl rfl (fun A8 c8 w8 hR5 => ?_)
          refine hK.out _ _ trivial (fun hHeld => ?_)
          try simp only [Act.put]
          have x4 := (hR5.nth 2 rfl : Blk w8 g _ #[.string id, .string who, .int .i64 ti, .int .i64 da, .slice A n c]).cell 4
          have f4 := (hR5.nth 2 rfl : Blk w8 g _ #[.string id, .string who, .int .i64 ti, .int .i64 da, .slice A n c]).frozen 4
          clear hRo hR4
          refine wpAnyH_take (i := 9) (v := .pointer (some ⟨g, 4, none⟩)) rfl (by kernel_rfl) (by kernel_rfl) (by kernel_rfl) (fun _ _ _ h => h) (Or.inl ⟨by rfl, fun V hV => ?_⟩) hHeld ?_
          · first | (go_simp; done) | (go_simp; rfl) | rfl
          simp only [Act.put]
          refine wpAnyH_ready (rs := [10]) (by kernel_rfl) (by simp) ?_
          refine AllReadyH.cons rfl (fun KK hK => ?_) AllReadyH.nil
          go_simp
          refine hK.out _ _ trivial (fun hHeld => ?_)
          try simp only [Act.put]
          have hR6 := (hR5.front 2 rfl rfl).set_ 4 (.slice A8 (n + 1) c8)
          refine wpAnyH_done (by kernel_rfl) ?_ _
          have hF := (hR6.front 1 rfl rfl).front 2 rfl rfl
          rw [show fs.flatMap prC ++ [Value.string h, Value.string s3] = (fs ++ [((h, s3) : Pr)]).flatMap prC from (fl_snoc fs (h, s3)).symm] at hF
          go_wp2_with fail
          go_roundw
          case rel => exact ⟨j + 1, n + 1, r + 1 + 1, A8, c8, fs ++ [(h, s3)], by omega, by go_num, by simp [hnf], by omega, pr_snoc hfz hhs hs3, Lib.hid (fsX_yes HHL.out HP.out HFV.out HS3.out), by omega, hF⟩
          case measure => simp [intOf]; omega
        refine AllReadyH.cons rfl (fun KK hK => ?_) AllReadyH.nil
        go_simp
        refine hK.out _ _ trivial (fun hHeld => ?_)
        try simp only [Act.put]
        have hR1 := hS.add #[.string ⟨#[120]⟩, .string ⟨#[121]⟩, .string ⟨#[49, 46, 50]⟩] 9
        try simp only [size1] at hR1
        refine wpAnyH_ready (rs := [1, 5]) (by kernel_rfl) (by simp) ?_
        refine AllReadyH.cons rfl (fun KK hK => ?_) ?_
        · have y4 := (hR1.nth 3 rfl : Blk _ g _ #[.string id, .string who, .int .i64 ti, .int .i64 da, .slice A n c]).cell 4
          go_simp
          refine hK.out _ _ trivial (fun hHeld => ?_)
          try simp only [Act.put]
          refine wpAnyH_ready (rs := [5]) (by kernel_rfl) (by simp) ?_
          refine AllReadyH.cons rfl (fun KK hK => ?_) AllReadyH.nil
          go_simp
          go_at_call 45
          refine (spE_someN 1000 hR1.drew 0 valX rfl rfl (by decide) (by decide) rfl (by decide) (by omega)).mono ?_
          rintro e w3 ⟨s3, rfl, HS3, hs3, hR3⟩
          refine hK.out _ _ trivial (fun hHeld => ?_)
          try simp only [Act.put]
          replace hR3 := hR3.drop 0 rfl rfl
          clear hR1
          refine wpAnyH_take (i := 6) (v := .agg #[.string h, .string s3]) rfl (by kernel_rfl) (by kernel_rfl) (by kernel_rfl) (fun _ _ _ h => h) (Or.inl ⟨by rfl, fun V hV => ?_⟩) hHeld ?_
          · first | (go_simp; done) | (go_simp; rfl) | rfl
          simp only [Act.put]
          refine wpAnyH_ready (rs := [7]) (by kernel_rfl) (by simp) ?_
          refine AllReadyH.cons rfl (fun KK hK => ?_) AllReadyH.nil
          go_simp
          refine hK.out _ _ trivial (fun hHeld => ?_)
          try simp only [Act.put]
          have hR4 := hR3.add #[.string h, .string s3] 75
          try simp only [size1] at hR4
          clear hR3
          refine wpAnyH_ready (rs := [8]) (by kernel_rfl) (by simp) ?_
          refine AllReadyH.cons rfl (fun KK hK => ?_) AllReadyH.nil
          have hRo := (hR4.front 2 rfl rfl).front 1 rfl rfl
          refine step_app_spx rfl _ _ rfl rfl (one2r rfl rfl) hRo hn2 rfl rfl (fun A8 c8 w8 hR5 => ?_)
          refine hK.out _ _ trivial (fun hHeld => ?_)
          try simp only [Act.put]
          have x4 := (hR5.nth 2 rfl : Blk w8 g _ #[.string id, .string who, .int .i64 ti, .int .i64 da, .slice A n c]).cell 4
          have f4 := (hR5.nth 2 rfl : Blk w8 g _ #[.string id, .string who, .int .i64 ti, .int .i64 da, .slice A n c]).frozen 4
          clear hRo hR4
          refine wpAnyH_take (i := 9) (v := .pointer (some ⟨g, 4, none⟩)) rfl (by kernel_rfl) (by kernel_rfl) (by kernel_rfl) (fun _ _ _ h => h) (Or.inl ⟨by rfl, fun V hV => ?_⟩) hHeld ?_
          · first | (go_simp; done) | (go_simp; rfl) | rfl
          simp only [Act.put]
          refine wpAnyH_ready (rs := [10]) (by kernel_rfl) (by simp) ?_
          refine AllReadyH.cons rfl (fun KK hK => ?_) AllReadyH.nil
          go_simp
          refine hK.out _ _ trivial (fun hHeld => ?_)
          try simp only [Act.put]
          have hR6 := (hR5.front 2 rfl rfl).set_ 4 (.slice A8 (n + 1) c8)
          refine wpAnyH_done (by kernel_rfl) ?_ _
          have hF := (hR6.front 1 rfl rfl).front 2 rfl rfl
          rw [show fs.flatMap prC ++ [Value.string h, Value.string s3] = (fs ++ [((h, s3) : Pr)]).flatMap prC from (fl_snoc fs (h, s3)).symm] at hF
          go_wp2_with fail
          go_roundw
          case rel => exact ⟨j + 1, n + 1, r + 1 + 1, A8, c8, fs ++ [(h, s3)], by omega, by go_num, by simp [hnf], by omega, pr_snoc hfz hhs hs3, Lib.hid (fsX_yes HHL.out HP.out HFV.out HS3.out), by omega, hF⟩
          case measure => simp [intOf]; omega
        refine AllReadyH.cons rfl (fun KK hK => ?_) AllReadyH.nil
        go_simp
        go_at_call 45
        refine (spE_someN 1000 hR1.drew 0 valX rfl rfl (by decide) (by decide) rfl (by decide) (by omega)).mono ?_
        rintro e w2 ⟨s2, rfl, HS2, hs2, hR2⟩
        refine hK.out _ _ trivial (fun hHeld => ?_)
        try simp only [Act.put]
        replace hR2 := hR2.drop 0 rfl rfl
        clear hR1
        refine wpAnyH_take (i := 6) (v := .agg #[.string h, .string s2]) rfl (by kernel_rfl) (by kernel_rfl) (by kernel_rfl) (fun _ _ _ h => h) (Or.inl ⟨by rfl, fun V hV => ?_⟩) hHeld ?_
        · first | (go_simp; done) | (go_simp; rfl) | rfl
        simp only [Act.put]
        refine wpAnyH_ready (rs := [1, 7]) (by kernel_rfl) (by simp) ?_
        refine AllReadyH.cons rfl (fun KK hK => ?_) ?_
        · have y4 := (hR2.nth 2 rfl : Blk _ g _ #[.string id, .string who, .int .i64 ti, .int .i64 da, .slice A n c]).cell 4
          go_simp
          refine hK.out _ _ trivial (fun hHeld => ?_)
          try simp only [Act.put]
          refine wpAnyH_ready (rs := [7]) (by kernel_rfl) (by simp) ?_
          refine AllReadyH.cons rfl (fun KK hK => ?_) AllReadyH.nil
          go_simp
          refine hK.out _ _ trivial (fun hHeld => ?_)
          try simp only [Act.put]
          have hR4 := hR2.add #[.string h, .string s2] 75
          try simp only [size1] at hR4
          clear hR2
          refine wpAnyH_ready (rs := [8]) (by kernel_rfl) (by simp) ?_
          refine AllReadyH.cons rfl (fun KK hK => ?_) AllReadyH.nil
          have hRo := (hR4.front 2 rfl rfl).front 1 rfl rfl
          refine step_app_spx rfl _ _ rfl rfl (one2r rfl rfl) hRo hn2 rfl rfl (fun A8 c8 w8 hR5 => ?_)
          refine hK.out _ _ trivial (fun hHeld => ?_)
          try simp only [Act.put]
          have x4 := (hR5.nth 2 rfl : Blk w8 g _ #[.string id, .string who, .int .i64 ti, .int .i64 da, .slice A n c]).cell 4
          have f4 := (hR5.nth 2 rfl : Blk w8 g _ #[.string id, .string who, .int .i64 ti, .int .i64 da, .slice A n c]).frozen 4
          clear hRo hR4
          refine wpAnyH_take (i := 9) (v := .pointer (some ⟨g, 4, none⟩)) rfl (by kernel_rfl) (by kernel_rfl) (by kernel_rfl) (fun _ _ _ h => h) (Or.inl ⟨by rfl, fun V hV => ?_⟩) hHeld ?_
          · first | (go_simp; done) | (go_simp; rfl) | rfl
          simp only [Act.put]
          refine wpAnyH_ready (rs := [10]) (by kernel_rfl) (by simp) ?_
          refine AllReadyH.cons rfl (fun KK hK => ?_) AllReadyH.nil
          go_simp
          refine hK.out _ _ trivial (fun hHeld => ?_)
          try simp only [Act.put]
          have hR6 := (hR5.front 2 rfl rfl).set_ 4 (.slice A8 (n + 1) c8)
          refine wpAnyH_done (by kernel_rfl) ?_ _
          have hF := (hR6.front 1 rfl rfl).front 2 rfl rfl
          rw [show fs.flatMap prC ++ [Value.string h, Value.string s2] = (fs ++ [((h, s2) : Pr)]).flatMap prC from (fl_snoc fs (h, s2)).symm] at hF
          go_wp2_with fail
          go_roundw
          case rel => exact ⟨j + 1, n + 1, r + 1 + 1, A8, c8, fs ++ [(h, s2)], by omega, by go_num, by simp [hnf], by omega, pr_snoc hfz hhs hs2, Lib.hid (fsX_yes HHL.out HP.out HFV.out HS2.out), by omega, hF⟩
          case measure => simp [intOf]; omega
        refine AllReadyH.cons rfl (fun KK hK => ?_) AllReadyH.nil
        go_simp
        refine hK.out _ _ trivial (fun hHeld => ?_)
        try simp only [Act.put]
        have hR3 := hR2.add #[.string h, .string s2] 75
        try simp only [size1] at hR3
        clear hR2
        refine wpAnyH_ready (rs := [1]) (by kernel_rfl) (by simp) ?_
        refine AllReadyH.cons rfl (fun KK hK => ?_) AllReadyH.nil
        have y4 := (hR3.nth 3 rfl : Blk _ g _ #[.string id, .string who, .int .i64 ti, .int .i64 da, .slice A n c]).cell 4
        go_simp
        refine hK.out _ _ trivial (fun hHeld => ?_)
        try simp only [Act.put]
        refine wpAnyH_ready (rs := [8]) (by kernel_rfl) (by simp) ?_
        refine AllReadyH.cons rfl (fun KK hK => ?_) AllReadyH.nil
        have hRo := (hR3.front 2 rfl rfl).front 1 rfl rfl
        refine step_app_spx rfl _ _ rfl rfl (one2r rfl rfl) hRo hn2 rfl rfl (fun A8 c8 w8 hR5 => ?_)
        refine hK.out _ _ trivial (fun hHeld => ?_)
        try simp only [Act.put]
        have x4 := (hR5.nth 2 rfl : Blk w8 g _ #[.string id, .string who, .int .i64 ti, .int .i64 da, .slice A n c]).cell 4
        have f4 := (hR5.nth 2 rfl : Blk w8 g _ #[.string id, .string who, .int .i64 ti, .int .i64 da, .slice A n c]).frozen 4
        clear hRo hR3
        refine wpAnyH_take (i := 9) (v := .pointer (some ⟨g, 4, none⟩)) rfl (by kernel_rfl) (by kernel_rfl) (by kernel_rfl) (fun _ _ _ h => h) (Or.inl ⟨by rfl, fun V hV => ?_⟩) hHeld ?_
        · first | (go_simp; done) | (go_simp; rfl) | rfl
        simp only [Act.put]
        refine wpAnyH_ready (rs := [10]) (by kernel_rfl) (by simp) ?_
        refine AllReadyH.cons rfl (fun KK hK => ?_) AllReadyH.nil
        go_simp
        refine hK.out _ _ trivial (fun hHeld => ?_)
        try simp only [Act.put]
        have hR6 := (hR5.front 2 rfl rfl).set_ 4 (.slice A8 (n + 1) c8)
        refine wpAnyH_done (by kernel_rfl) ?_ _
        have hF := (hR6.front 1 rfl rfl).front 2 rfl rfl
        rw [show fs.flatMap prC ++ [Value.string h, Value.string s2] = (fs ++ [((h, s2) : Pr)]).flatMap prC from (fl_snoc fs (h, s2)).symm] at hF
        go_wp2_with fail
        go_roundw
        case rel => exact ⟨j + 1, n + 1, r + 1 + 1, A8, c8, fs ++ [(h, s2)], by omega, by go_num, by simp [hnf], by omega, pr_snoc hfz hhs hs2, Lib.hid (fsX_yes HHL.out HP.out HFV.out HS2.out), by omega, hF⟩
        case measure => simp [intOf]; omega
    · obtain rfl : j = 3 := by omega
      have HSR : Hid (SrH zs p who ti da r fs) := Lib.hid ⟨HNW.out, HTI.out, HDA.out, HP.out⟩
      obtain ⟨T, hT⟩ : ∃ T, srX zs p id = T := ⟨_, rfl⟩
      have HT := Lib.hid hT
      clear hT
      have hidz := hid0
      have hwz := hw0
      have htz : -2199023255552 ≤ ti ∧ ti ≤ 2199023255552 := ⟨by omega, by omega⟩
      have hdz : -2199023255552 ≤ da ∧ da ≤ 2199023255552 := ⟨by omega, by omega⟩
      replace hS := hS.tail
      go_upto_if 39 with (first | (go_at_call 61; refine (spE_flip hS 25 (by omega) (by omega) (by omega)).mono ?_; rintro e w5 ⟨fv, rfl, HFV, hS5⟩))
      clear hS
      go_cut [] (fun V => ∃ (id who : ByteArray) (ti da : Int) (n r : Nat) (A : Option Addr) (c : Nat) (fs : List Pr), Hid (RnQ id who ti da n fs) ∧ Hid (T = (r, id, who, ti, da, fs)) ∧ r ≤ p + 20 ∧ SpX zs w b r V [rOwn w.heap.size 75 2 (.slice A n c) n (fs.flatMap prC), rBlk g 101 #[.string id, .string who, .int .i64 ti, .int .i64 da, .slice A n c], rBlk w.heap.size 101 #[.string ⟨#[]⟩, .string ⟨#[]⟩, .int .i64 0, .int .i64 0, .slice none 0 0]])
      case first =>
        cases fv
        · go_wp2_with fail
          go_meet
          exact ⟨id, who, ti, da, n, r + 1, A, c, fs, Lib.hid ⟨hnf, hidz, hwz, hfz, by omega, htz, hdz⟩, Lib.hid (HT.out.symm.trans (srX_a HSR.out HFV.out)), by omega, hS5⟩
        · go_wp2_with fail
          refine (spE_next hS5 4 (by omega) (by omega) (by omega)).mono ?_
          rintro e w6 ⟨q, rfl, HQ, hq0, hq1, hS6⟩
          clear hS5
          by_cases h0 : q = 0
          · subst h0
            go_wp2_with fail
            refine (spE_someLN 1000 hS6 [id, ⟨#[]⟩, ⟨#[65]⟩] #[.string id, .string ⟨#[]⟩, .string ⟨#[65]⟩] 9 3 rfl (by decide) (by decide) rfl (id3_sz hidz) (by omega)).mono ?_
            rintro e w7 ⟨i7, rfl, H7, hi7, hS7⟩
            clear hS6
            go_wp2_with fail
            refine (spE_someLN 1000 hS7 [⟨#[97, 110, 110]⟩, ⟨#[]⟩] #[.string ⟨#[97, 110, 110]⟩, .string ⟨#[]⟩] 9 2 rfl (by decide) (by decide) rfl (by decide) (by omega)).mono ?_
            rintro e w8 ⟨i8, rfl, H8, hi8, hS8⟩
            clear hS7
            have hk8 : Blk w8 g _ #[.string id, .string who, .int .i64 ti, .int .i64 da, .slice A n c] := hS8.nth 1 rfl
            have x0 := hk8.cell 0
            have x1 := hk8.cell 1
            have f0 := hk8.frozen 0
            have f1 := hk8.frozen 1
            clear hk8
            have hS9 := (((hS8.front 1 rfl rfl).set_ 0 (.string i7)).set_ 1 (.string i8)).front 1 rfl rfl
            go_wp2_with fail
            go_meet
            exact ⟨i7, i8, ti, da, n, r + 1 + 1 + 1 + 1, A, c, fs, Lib.hid ⟨hnf, hi7, hi8, hfz, by omega, htz, hdz⟩, Lib.hid (HT.out.symm.trans (srX_0 HSR.out HFV.out HQ.out H7.out H8.out)), by omega, hS9⟩
          · by_cases h1 : q = 1
            · subst h1
              go_wp2_with fail
              refine (spE_odd hS6 0 864000000 (by omega) (by omega) (by omega) (by omega)).mono ?_
              rintro e w7 ⟨i7, rfl, H7, hi7, hi7', hS7⟩
              clear hS6
              go_wp2_with fail
              refine (spE_odd hS7 0 500 (by omega) (by omega) (by omega) (by omega)).mono ?_
              rintro e w8 ⟨i8, rfl, H8, hi8, hi8', hS8⟩
              clear hS7
              have hk8 : Blk w8 g _ #[.string id, .string who, .int .i64 ti, .int .i64 da, .slice A n c] := hS8.nth 1 rfl
              have x0 := hk8.cell 2
              have x1 := hk8.cell 3
              have f0 := hk8.frozen 2
              have f1 := hk8.frozen 3
              clear hk8
              have hS9 := (((hS8.front 1 rfl rfl).set_ 2 (.int .i64 i7)).set_ 3 (.int .i64 i8)).front 1 rfl rfl
              go_wp2_with fail
              go_meet
              exact ⟨id, who, i7, i8, n, r + 1 + 1 + 2 + 2, A, c, fs, Lib.hid ⟨hnf, hidz, hwz, hfz, by omega, ⟨by omega, by omega⟩, ⟨by omega, by omega⟩⟩, Lib.hid (HT.out.symm.trans (srX_1 HSR.out HFV.out HQ.out H7.out H8.out)), by omega, hS9⟩
            · have hq0b : (q == 0) = false := by simpa using h0
              have hq1b : (q == 1) = false := by simpa using h1
              have hS := hS6
              clear hS6
              go_upto_region 10 with (fail)
              refine wp_region_held_drew (S := fun _ => True) (by kernel_rfl) trivial (fun hHeld => ?_)
              refine wpAnyH_take (i := 0) (v := .pointer (some ⟨g, 4, none⟩)) rfl (by kernel_rfl) (by kernel_rfl) (by kernel_rfl) (fun _ _ _ h => h) (Or.inl ⟨by rfl, fun V hV => ?_⟩) hHeld ?_
              · first | (go_simp; done) | (go_simp; rfl) | rfl
              simp only [Act.put]
              refine wpAnyH_take (i := 2) (v := .pointer (some ⟨b, 0, none⟩)) rfl (by kernel_rfl) (by kernel_rfl) (by kernel_rfl) (fun _ _ _ h => h) (Or.inl ⟨by rfl, fun V hV => ?_⟩) hHeld ?_
              · first | (go_simp; done) | (go_simp; rfl) | rfl
              simp only [Act.put]
              refine wpAnyH_take (i := 5) (v := .pointer (some ⟨b, 0, none⟩)) rfl (by kernel_rfl) (by kernel_rfl) (by kernel_rfl) (fun _ _ _ h => h) (Or.inl ⟨by rfl, fun V hV => ?_⟩) hHeld ?_
              · first | (go_simp; done) | (go_simp; rfl) | rfl
              simp only [Act.put]
              refine wpAnyH_ready (rs := [1, 3, 6]) (by kernel_rfl) (by simp) ?_
              refine AllReadyH.cons rfl (fun KK hK => ?_) ?_
              · have y4 := (hS.nth 1 rfl : Blk _ g _ #[.string id, .string who, .int .i64 ti, .int .i64 da, .slice A n c]).cell 4
                go_simp
                refine hK.out _ _ trivial (fun hHeld => ?_)
                try simp only [Act.put]
                refine wpAnyH_ready (rs := [3, 6]) (by kernel_rfl) (by simp) ?_
                refine AllReadyH.cons rfl (fun KK hK => ?_) ?_
                · go_simp
                  refine hK.out _ _ trivial (fun hHeld => ?_)
                  try simp only [Act.put]
                  have hR2 := hS.add #[.string ⟨#[100]⟩, .string ⟨#[97]⟩, .string ⟨#[116, 105, 109, 101]⟩, .string ⟨#[111, 114]⟩, .string ⟨#[]⟩] 9
                  try simp only [size1] at hR2
                  refine wpAnyH_ready (rs := [4, 6]) (by kernel_rfl) (by simp) ?_
                  refine AllReadyH.cons rfl (fun KK hK => ?_) ?_
                  · go_simp
                    go_at_call 45
                    refine (spE_someN 1000 hR2.drew 0 d5X rfl rfl (by decide) (by decide) rfl (by decide) (by omega)).mono ?_
                    rintro e w3 ⟨s3, rfl, HS3, hs3, hR3⟩
                    refine hK.out _ _ trivial (fun hHeld => ?_)
                    try simp only [Act.put]
                    replace hR3 := hR3.drop 0 rfl rfl
                    clear hR2
                    refine wpAnyH_ready (rs := [6]) (by kernel_rfl) (by simp) ?_
                    refine AllReadyH.cons rfl (fun KK hK => ?_) AllReadyH.nil
                    go_simp
                    refine hK.out _ _ trivial (fun hHeld => ?_)
                    try simp only [Act.put]
                    have hR4 := hR3.add #[.string ⟨#[120]⟩, .string ⟨#[]⟩, .string ⟨#[65]⟩, .string ⟨#[110, 111, 116]⟩] 9
                    try simp only [size1] at hR4
                    clear hR3
                    refine wpAnyH_ready (rs := [7]) (by kernel_rfl) (by simp) ?_
                    refine AllReadyH.cons rfl (fun KK hK => ?_) AllReadyH.nil
                    go_simp
                    go_at_call 45
                    refine (spE_someN 1000 hR4 0 d4X rfl rfl (by decide) (by decide) rfl (by decide) (by omega)).mono ?_
                    rintro e w5 ⟨s5, rfl, HS5, hs5, hR5⟩
                    refine hK.out _ _ trivial (fun hHeld => ?_)
                    try simp only [Act.put]
                    replace hR5 := hR5.drop 0 rfl rfl
                    clear hR4
                    refine wpAnyH_take (i := 8) (v := .agg #[.string s3, .string s5]) rfl (by kernel_rfl) (by kernel_rfl) (by kernel_rfl) (fun _ _ _ h => h) (Or.inl ⟨by rfl, fun V hV => ?_⟩) hHeld ?_
                    · first | (go_simp; done) | (go_simp; rfl) | rfl
                    simp only [Act.put]
                    refine wpAnyH_ready (rs := [9]) (by kernel_rfl) (by simp) ?_
                    refine AllReadyH.cons rfl (fun KK hK => ?_) AllReadyH.nil
                    go_simp
                    refine hK.out _ _ trivial (fun hHeld => ?_)
                    try simp only [Act.put]
                    have hR6 := hR5.add #[.string s3, .string s5] 75
                    try simp only [size1] at hR6
                    clear hR5
                    refine wpAnyH_ready (rs := [10]) (by kernel_rfl) (by simp) ?_
                    refine AllReadyH.cons rfl (fun KK hK => ?_) AllReadyH.nil
                    have hRo := (hR6.front 1 rfl rfl).front 1 rfl rfl
                    refine step_app_spx rfl _ _ rfl rfl (one2r rfl rfl) hRo hn2 rfl rfl (fun A8 c8 w8 hR7 => ?_)
                    refine hK.out _ _ trivial (fun hHeld => ?_)
                    try simp only [Act.put]
                    have x4 := (hR7.nth 1 rfl : Blk w8 g _ #[.string id, .string who, .int .i64 ti, .int .i64 da, .slice A n c]).cell 4
                    have f4 := (hR7.nth 1 rfl : Blk w8 g _ #[.string id, .string who, .int .i64 ti, .int .i64 da, .slice A n c]).frozen 4
                    clear hRo hR6
                    refine wpAnyH_take (i := 11) (v := .pointer (some ⟨g, 4, none⟩)) rfl (by kernel_rfl) (by kernel_rfl) (by kernel_rfl) (fun _ _ _ h => h) (Or.inl ⟨by rfl, fun V hV => ?_⟩) hHeld ?_
                    · first | (go_simp; done) | (go_simp; rfl) | rfl
                    simp only [Act.put]
                    refine wpAnyH_ready (rs := [12]) (by kernel_rfl) (by simp) ?_
                    refine AllReadyH.cons rfl (fun KK hK => ?_) AllReadyH.nil
                    go_simp
                    refine hK.out _ _ trivial (fun hHeld => ?_)
                    try simp only [Act.put]
                    have hR8 := (hR7.front 1 rfl rfl).set_ 4 (.slice A8 (n + 1) c8)
                    refine wpAnyH_done (by kernel_rfl) ?_ _
                    have hF := hR8.front 1 rfl rfl
                    rw [show fs.flatMap prC ++ [Value.string s3, Value.string s5] = (fs ++ [((s3, s5) : Pr)]).flatMap prC from (fl_snoc fs (s3, s5)).symm] at hF
                    go_wp2_with fail
                    go_meet
                    exact ⟨id, who, ti, da, n + 1, r + 1 + 1 + 1 + 1, A8, c8, fs ++ [(s3, s5)], Lib.hid ⟨by simp [hnf], hidz, hwz, pr_snoc hfz hs3 hs5, by omega, htz, hdz⟩, Lib.hid (HT.out.symm.trans (srX_2 HSR.out HFV.out HQ.out h0 h1 HS3.out HS5.out)), by omega, hF⟩
                  refine AllReadyH.cons rfl (fun KK hK => ?_) AllReadyH.nil
                  go_simp
                  refine hK.out _ _ trivial (fun hHeld => ?_)
                  try simp only [Act.put]
                  have hR3 := hR2.add #[.string ⟨#[120]⟩, .string ⟨#[]⟩, .string ⟨#[65]⟩, .string ⟨#[110, 111, 116]⟩] 9
                  try simp only [size1] at hR3
                  clear hR2
                  refine wpAnyH_ready (rs := [4]) (by kernel_rfl) (by simp) ?_
                  refine AllReadyH.cons rfl (fun KK hK => ?_) AllReadyH.nil
                  go_simp
                  go_at_call 45
                  refine (spE_someN 1000 hR3.drew 1 d5X rfl rfl (by decide) (by decide) rfl (by decide) (by omega)).mono ?_
                  rintro e w4 ⟨s4, rfl, HS4, hs4, hR4⟩
                  refine hK.out _ _ trivial (fun hHeld => ?_)
                  try simp only [Act.put]
                  replace hR4 := hR4.drop 1 rfl rfl
                  clear hR3
                  refine wpAnyH_ready (rs := [7]) (by kernel_rfl) (by simp) ?_
                  refine AllReadyH.cons rfl (fun KK hK => ?_) AllReadyH.nil
                  go_simp
                  go_at_call 45
                  refine (spE_someN 1000 hR4 0 d4X rfl rfl (by decide) (by decide) rfl (by decide) (by omega)).mono ?_
                  rintro e w5 ⟨s5, rfl, HS5, hs5, hR5⟩
                  refine hK.out _ _ trivial (fun hHeld => ?_)
                  try simp only [Act.put]
                  replace hR5 := hR5.drop 0 rfl rfl
                  clear hR4
                  refine wpAnyH_take (i := 8) (v := .agg #[.string s4, .string s5]) rfl (by kernel_rfl) (by kernel_rfl) (by kernel_rfl) (fun _ _ _ h => h) (Or.inl ⟨by rfl, fun V hV => ?_⟩) hHeld ?_
                  · first | (go_simp; done) | (go_simp; rfl) | rfl
                  simp only [Act.put]
                  refine wpAnyH_ready (rs := [9]) (by kernel_rfl) (by simp) ?_
                  refine AllReadyH.cons rfl (fun KK hK => ?_) AllReadyH.nil
                  go_simp
                  refine hK.out _ _ trivial (fun hHeld => ?_)
                  try simp only [Act.put]
                  have hR6 := hR5.add #[.string s4, .string s5] 75
                  try simp only [size1] at hR6
                  clear hR5
                  refine wpAnyH_ready (rs := [10]) (by kernel_rfl) (by simp) ?_
                  refine AllReadyH.cons rfl (fun KK hK => ?_) AllReadyH.nil
                  have hRo := (hR6.front 1 rfl rfl).front 1 rfl rfl
                  refine step_app_spx rfl _ _ rfl rfl (one2r rfl rfl) hRo hn2 rfl rfl (fun A8 c8 w8 hR7 => ?_)
                  refine hK.out _ _ trivial (fun hHeld => ?_)
                  try simp only [Act.put]
                  have x4 := (hR7.nth 1 rfl : Blk w8 g _ #[.string id, .string who, .int .i64 ti, .int .i64 da, .slice A n c]).cell 4
                  have f4 := (hR7.nth 1 rfl : Blk w8 g _ #[.string id, .string who, .int .i64 ti, .int .i64 da, .slice A n c]).frozen 4
                  clear hRo hR6
                  refine wpAnyH_take (i := 11) (v := .pointer (some ⟨g, 4, none⟩)) rfl (by kernel_rfl) (by kernel_rfl) (by kernel_rfl) (fun _ _ _ h => h) (Or.inl ⟨by rfl, fun V hV => ?_⟩) hHeld ?_
                  · first | (go_simp; done) | (go_simp; rfl) | rfl
                  simp only [Act.put]
                  refine wpAnyH_ready (rs := [12]) (by kernel_rfl) (by simp) ?_
                  refine AllReadyH.cons rfl (fun KK hK => ?_) AllReadyH.nil
                  go_simp
                  refine hK.out _ _ trivial (fun hHeld => ?_)
                  try simp only [Act.put]
                  have hR8 := (hR7.front 1 rfl rfl).set_ 4 (.slice A8 (n + 1) c8)
                  refine wpAnyH_done (by kernel_rfl) ?_ _
                  have hF := hR8.front 1 rfl rfl
                  rw [show fs.flatMap prC ++ [Value.string s4, Value.string s5] = (fs ++ [((s4, s5) : Pr)]).flatMap prC from (fl_snoc fs (s4, s5)).symm] at hF
                  go_wp2_with fail
                  go_meet
                  exact ⟨id, who, ti, da, n + 1, r + 1 + 1 + 1 + 1, A8, c8, fs ++ [(s4, s5)], Lib.hid ⟨by simp [hnf], hidz, hwz, pr_snoc hfz hs4 hs5, by omega, htz, hdz⟩, Lib.hid (HT.out.symm.trans (srX_2 HSR.out HFV.out HQ.out h0 h1 HS4.out HS5.out)), by omega, hF⟩
                refine AllReadyH.cons rfl (fun KK hK => ?_) AllReadyH.nil
                go_simp
                refine hK.out _ _ trivial (fun hHeld => ?_)
                try simp only [Act.put]
                have hR2 := hS.add #[.string ⟨#[120]⟩, .string ⟨#[]⟩, .string ⟨#[65]⟩, .string ⟨#[110, 111, 116]⟩] 9
                try simp only [size1] at hR2
                refine wpAnyH_ready (rs := [3]) (by kernel_rfl) (by simp) ?_
                refine AllReadyH.cons rfl (fun KK hK => ?_) AllReadyH.nil
                go_simp
                refine hK.out _ _ trivial (fun hHeld => ?_)
                try simp only [Act.put]
                have hR3 := hR2.add #[.string ⟨#[100]⟩, .string ⟨#[97]⟩, .string ⟨#[116, 105, 109, 101]⟩, .string ⟨#[111, 114]⟩, .string ⟨#[]⟩] 9
                try simp only [size1] at hR3
                clear hR2
                refine wpAnyH_ready (rs := [4]) (by kernel_rfl) (by simp) ?_
                refine AllReadyH.cons rfl (fun KK hK => ?_) AllReadyH.nil
                go_simp
                go_at_call 45
                refine (spE_someN 1000 hR3.drew 0 d5X rfl rfl (by decide) (by decide) rfl (by decide) (by omega)).mono ?_
                rintro e w4 ⟨s4, rfl, HS4, hs4, hR4⟩
                refine hK.out _ _ trivial (fun hHeld => ?_)
                try simp only [Act.put]
                replace hR4 := hR4.drop 0 rfl rfl
                clear hR3
                refine wpAnyH_ready (rs := [7]) (by kernel_rfl) (by simp) ?_
                refine AllReadyH.cons rfl (fun KK hK => ?_) AllReadyH.nil
                go_simp
                go_at_call 45
                refine (spE_someN 1000 hR4 0 d4X rfl rfl (by decide) (by decide) rfl (by decide) (by omega)).mono ?_
                rintro e w5 ⟨s5, rfl, HS5, hs5, hR5⟩
                refine hK.out _ _ trivial (fun hHeld => ?_)
                try simp only [Act.put]
                replace hR5 := hR5.drop 0 rfl rfl
                clear hR4
                refine wpAnyH_take (i := 8) (v := .agg #[.string s4, .string s5]) rfl (by kernel_rfl) (by kernel_rfl) (by kernel_rfl) (fun _ _ _ h => h) (Or.inl ⟨by rfl, fun V hV => ?_⟩) hHeld ?_
                · first | (go_simp; done) | (go_simp; rfl) | rfl
                simp only [Act.put]
                refine wpAnyH_ready (rs := [9]) (by kernel_rfl) (by simp) ?_
                refine AllReadyH.cons rfl (fun KK hK => ?_) AllReadyH.nil
                go_simp
                refine hK.out _ _ trivial (fun hHeld => ?_)
                try simp only [Act.put]
                have hR6 := hR5.add #[.string s4, .string s5] 75
                try simp only [size1] at hR6
                clear hR5
                refine wpAnyH_ready (rs := [10]) (by kernel_rfl) (by simp) ?_
                refine AllReadyH.cons rfl (fun KK hK => ?_) AllReadyH.nil
                have hRo := (hR6.front 1 rfl rfl).front 1 rfl rfl
                refine step_app_spx rfl _ _ rfl rfl (one2r rfl rfl) hRo hn2 rfl rfl (fun A8 c8 w8 hR7 => ?_)
                refine hK.out _ _ trivial (fun hHeld => ?_)
                try simp only [Act.put]
                have x4 := (hR7.nth 1 rfl : Blk w8 g _ #[.string id, .string who, .int .i64 ti, .int .i64 da, .slice A n c]).cell 4
                have f4 := (hR7.nth 1 rfl : Blk w8 g _ #[.string id, .string who, .int .i64 ti, .int .i64 da, .slice A n c]).frozen 4
                clear hRo hR6
                refine wpAnyH_take (i := 11) (v := .pointer (some ⟨g, 4, none⟩)) rfl (by kernel_rfl) (by kernel_rfl) (by kernel_rfl) (fun _ _ _ h => h) (Or.inl ⟨by rfl, fun V hV => ?_⟩) hHeld ?_
                · first | (go_simp; done) | (go_simp; rfl) | rfl
                simp only [Act.put]
                refine wpAnyH_ready (rs := [12]) (by kernel_rfl) (by simp) ?_
                refine AllReadyH.cons rfl (fun KK hK => ?_) AllReadyH.nil
                go_simp
                refine hK.out _ _ trivial (fun hHeld => ?_)
                try simp only [Act.put]
                have hR8 := (hR7.front 1 rfl rfl).set_ 4 (.slice A8 (n + 1) c8)
                refine wpAnyH_done (by kernel_rfl) ?_ _
                have hF := hR8.front 1 rfl rfl
                rw [show fs.flatMap prC ++ [Value.string s4, Value.string s5] = (fs ++ [((s4, s5) : Pr)]).flatMap prC from (fl_snoc fs (s4, s5)).symm] at hF
                go_wp2_with fail
                go_meet
                exact ⟨id, who, ti, da, n + 1, r + 1 + 1 + 1 + 1, A8, c8, fs ++ [(s4, s5)], Lib.hid ⟨by simp [hnf], hidz, hwz, pr_snoc hfz hs4 hs5, by omega, htz, hdz⟩, Lib.hid (HT.out.symm.trans (srX_2 HSR.out HFV.out HQ.out h0 h1 HS4.out HS5.out)), by omega, hF⟩
              refine AllReadyH.cons rfl (fun KK hK => ?_) ?_
              · go_simp
                refine hK.out _ _ trivial (fun hHeld => ?_)
                try simp only [Act.put]
                have hR1 := hS.add #[.string ⟨#[100]⟩, .string ⟨#[97]⟩, .string ⟨#[116, 105, 109, 101]⟩, .string ⟨#[111, 114]⟩, .string ⟨#[]⟩] 9
                try simp only [size1] at hR1
                refine wpAnyH_ready (rs := [1, 4, 6]) (by kernel_rfl) (by simp) ?_
                refine AllReadyH.cons rfl (fun KK hK => ?_) ?_
                · have y4 := (hR1.nth 2 rfl : Blk _ g _ #[.string id, .string who, .int .i64 ti, .int .i64 da, .slice A n c]).cell 4
                  go_simp
                  refine hK.out _ _ trivial (fun hHeld => ?_)
                  try simp only [Act.put]
                  refine wpAnyH_ready (rs := [4, 6]) (by kernel_rfl) (by simp) ?_
                  refine AllReadyH.cons rfl (fun KK hK => ?_) ?_
                  · go_simp
                    go_at_call 45
                    refine (spE_someN 1000 hR1.drew 0 d5X rfl rfl (by decide) (by decide) rfl (by decide) (by omega)).mono ?_
                    rintro e w3 ⟨s3, rfl, HS3, hs3, hR3⟩
                    refine hK.out _ _ trivial (fun hHeld => ?_)
                    try simp only [Act.put]
                    replace hR3 := hR3.drop 0 rfl rfl
                    clear hR1
                    refine wpAnyH_ready (rs := [6]) (by kernel_rfl) (by simp) ?_
                    refine AllReadyH.cons rfl (fun KK hK => ?_) AllReadyH.nil
                    go_simp
                    refine hK.out _ _ trivial (fun hHeld => ?_)
                    try simp only [Act.put]
                    have hR4 := hR3.add #[.string ⟨#[120]⟩, .string ⟨#[]⟩, .string ⟨#[65]⟩, .string ⟨#[110, 111, 116]⟩] 9
                    try simp only [size1] at hR4
                    clear hR3
                    refine wpAnyH_ready (rs := [7]) (by kernel_rfl) (by simp) ?_
                    refine AllReadyH.cons rfl (fun KK hK => ?_) AllReadyH.nil
                    go_simp
                    go_at_call 45
                    refine (spE_someN 1000 hR4 0 d4X rfl rfl (by decide) (by decide) rfl (by decide) (by omega)).mono ?_
                    rintro e w5 ⟨s5, rfl, HS5, hs5, hR5⟩
                    refine hK.out _ _ trivial (fun hHeld => ?_)
                    try simp only [Act.put]
                    replace hR5 := hR5.drop 0 rfl rfl
                    clear hR4
                    refine wpAnyH_take (i := 8) (v := .agg #[.string s3, .string s5]) rfl (by kernel_rfl) (by kernel_rfl) (by kernel_rfl) (fun _ _ _ h => h) (Or.inl ⟨by rfl, fun V hV => ?_⟩) hHeld ?_
                    · first | (go_simp; done) | (go_simp; rfl) | rfl
                    simp only [Act.put]
                    refine wpAnyH_ready (rs := [9]) (by kernel_rfl) (by simp) ?_
                    refine AllReadyH.cons rfl (fun KK hK => ?_) AllReadyH.nil
                    go_simp
                    refine hK.out _ _ trivial (fun hHeld => ?_)
                    try simp only [Act.put]
                    have hR6 := hR5.add #[.string s3, .string s5] 75
                    try simp only [size1] at hR6
                    clear hR5
                    refine wpAnyH_ready (rs := [10]) (by kernel_rfl) (by simp) ?_
                    refine AllReadyH.cons rfl (fun KK hK => ?_) AllReadyH.nil
                    have hRo := (hR6.front 1 rfl rfl).front 1 rfl rfl
                    refine step_app_spx rfl _ _ rfl rfl (one2r rfl rfl) hRo hn2 rfl rfl (fun A8 c8 w8 hR7 => ?_)
                    refine hK.out _ _ trivial (fun hHeld => ?_)
                    try simp only [Act.put]
                    have x4 := (hR7.nth 1 rfl : Blk w8 g _ #[.string id, .string who, .int .i64 ti, .int .i64 da, .slice A n c]).cell 4
                    have f4 := (hR7.nth 1 rfl : Blk w8 g _ #[.string id, .string who, .int .i64 ti, .int .i64 da, .slice A n c]).frozen 4
                    clear hRo hR6
                    refine wpAnyH_take (i := 11) (v := .pointer (some ⟨g, 4, none⟩)) rfl (by kernel_rfl) (by kernel_rfl) (by kernel_rfl) (fun _ _ _ h => h) (Or.inl ⟨by rfl, fun V hV => ?_⟩) hHeld ?_
                    · first | (go_simp; done) | (go_simp; rfl) | rfl
                    simp only [Act.put]
                    refine wpAnyH_ready (rs := [12]) (by kernel_rfl) (by simp) ?_
                    refine AllReadyH.cons rfl (fun KK hK => ?_) AllReadyH.nil
                    go_simp
                    refine hK.out _ _ trivial (fun hHeld => ?_)
                    try simp only [Act.put]
                    have hR8 := (hR7.front 1 rfl rfl).set_ 4 (.slice A8 (n + 1) c8)
                    refine wpAnyH_done (by kernel_rfl) ?_ _
                    have hF := hR8.front 1 rfl rfl
                    rw [show fs.flatMap prC ++ [Value.string s3, Value.string s5] = (fs ++ [((s3, s5) : Pr)]).flatMap prC from (fl_snoc fs (s3, s5)).symm] at hF
                    go_wp2_with fail
                    go_meet
                    exact ⟨id, who, ti, da, n + 1, r + 1 + 1 + 1 + 1, A8, c8, fs ++ [(s3, s5)], Lib.hid ⟨by simp [hnf], hidz, hwz, pr_snoc hfz hs3 hs5, by omega, htz, hdz⟩, Lib.hid (HT.out.symm.trans (srX_2 HSR.out HFV.out HQ.out h0 h1 HS3.out HS5.out)), by omega, hF⟩
                  refine AllReadyH.cons rfl (fun KK hK => ?_) AllReadyH.nil
                  go_simp
                  refine hK.out _ _ trivial (fun hHeld => ?_)
                  try simp only [Act.put]
                  have hR3 := hR1.add #[.string ⟨#[120]⟩, .string ⟨#[]⟩, .string ⟨#[65]⟩, .string ⟨#[110, 111, 116]⟩] 9
                  try simp only [size1] at hR3
                  clear hR1
                  refine wpAnyH_ready (rs := [4]) (by kernel_rfl) (by simp) ?_
                  refine AllReadyH.cons rfl (fun KK hK => ?_) AllReadyH.nil
                  go_simp
                  go_at_call 45
                  refine (spE_someN 1000 hR3.drew 1 d5X rfl rfl (by decide) (by decide) rfl (by decide) (by omega)).mono ?_
                  rintro e w4 ⟨s4, rfl, HS4, hs4, hR4⟩
                  refine hK.out _ _ trivial (fun hHeld => ?_)
                  try simp only [Act.put]
                  replace hR4 := hR4.drop 1 rfl rfl
                  clear hR3
                  refine wpAnyH_ready (rs := [7]) (by kernel_rfl) (by simp) ?_
                  refine AllReadyH.cons rfl (fun KK hK => ?_) AllReadyH.nil
                  go_simp
                  go_at_call 45
                  refine (spE_someN 1000 hR4 0 d4X rfl rfl (by decide) (by decide) rfl (by decide) (by omega)).mono ?_
                  rintro e w5 ⟨s5, rfl, HS5, hs5, hR5⟩
                  refine hK.out _ _ trivial (fun hHeld => ?_)
                  try simp only [Act.put]
                  replace hR5 := hR5.drop 0 rfl rfl
                  clear hR4
                  refine wpAnyH_take (i := 8) (v := .agg #[.string s4, .string s5]) rfl (by kernel_rfl) (by kernel_rfl) (by kernel_rfl) (fun _ _ _ h => h) (Or.inl ⟨by rfl, fun V hV => ?_⟩) hHeld ?_
                  · first | (go_simp; done) | (go_simp; rfl) | rfl
                  simp only [Act.put]
                  refine wpAnyH_ready (rs := [9]) (by kernel_rfl) (by simp) ?_
                  refine AllReadyH.cons rfl (fun KK hK => ?_) AllReadyH.nil
                  go_simp
                  refine hK.out _ _ trivial (fun hHeld => ?_)
                  try simp only [Act.put]
                  have hR6 := hR5.add #[.string s4, .string s5] 75
                  try simp only [size1] at hR6
                  clear hR5
                  refine wpAnyH_ready (rs := [10]) (by kernel_rfl) (by simp) ?_
                  refine AllReadyH.cons rfl (fun KK hK => ?_) AllReadyH.nil
                  have hRo := (hR6.front 1 rfl rfl).front 1 rfl rfl
                  refine step_app_spx rfl _ _ rfl rfl (one2r rfl rfl) hRo hn2 rfl rfl (fun A8 c8 w8 hR7 => ?_)
                  refine hK.out _ _ trivial (fun hHeld => ?_)
                  try simp only [Act.put]
                  have x4 := (hR7.nth 1 rfl : Blk w8 g _ #[.string id, .string who, .int .i64 ti, .int .i64 da, .slice A n c]).cell 4
                  have f4 := (hR7.nth 1 rfl : Blk w8 g _ #[.string id, .string who, .int .i64 ti, .int .i64 da, .slice A n c]).frozen 4
                  clear hRo hR6
                  refine wpAnyH_take (i := 11) (v := .pointer (some ⟨g, 4, none⟩)) rfl (by kernel_rfl) (by kernel_rfl) (by kernel_rfl) (fun _ _ _ h => h) (Or.inl ⟨by rfl, fun V hV => ?_⟩) hHeld ?_
                  · first | (go_simp; done) | (go_simp; rfl) | rfl
                  simp only [Act.put]
                  refine wpAnyH_ready (rs := [12]) (by kernel_rfl) (by simp) ?_
                  refine AllReadyH.cons rfl (fun KK hK => ?_) AllReadyH.nil
                  go_simp
                  refine hK.out _ _ trivial (fun hHeld => ?_)
                  try simp only [Act.put]
                  have hR8 := (hR7.front 1 rfl rfl).set_ 4 (.slice A8 (n + 1) c8)
                  refine wpAnyH_done (by kernel_rfl) ?_ _
                  have hF := hR8.front 1 rfl rfl
                  rw [show fs.flatMap prC ++ [Value.string s4, Value.string s5] = (fs ++ [((s4, s5) : Pr)]).flatMap prC from (fl_snoc fs (s4, s5)).symm] at hF
                  go_wp2_with fail
                  go_meet
                  exact ⟨id, who, ti, da, n + 1, r + 1 + 1 + 1 + 1, A8, c8, fs ++ [(s4, s5)], Lib.hid ⟨by simp [hnf], hidz, hwz, pr_snoc hfz hs4 hs5, by omega, htz, hdz⟩, Lib.hid (HT.out.symm.trans (srX_2 HSR.out HFV.out HQ.out h0 h1 HS4.out HS5.out)), by omega, hF⟩
                refine AllReadyH.cons rfl (fun KK hK => ?_) ?_
                · go_simp
                  go_at_call 45
                  refine (spE_someN 1000 hR1.drew 0 d5X rfl rfl (by decide) (by decide) rfl (by decide) (by omega)).mono ?_
                  rintro e w2 ⟨s2, rfl, HS2, hs2, hR2⟩
                  refine hK.out _ _ trivial (fun hHeld => ?_)
                  try simp only [Act.put]
                  replace hR2 := hR2.drop 0 rfl rfl
                  clear hR1
                  refine wpAnyH_ready (rs := [1, 6]) (by kernel_rfl) (by simp) ?_
                  refine AllReadyH.cons rfl (fun KK hK => ?_) ?_
                  · have y4 := (hR2.nth 1 rfl : Blk _ g _ #[.string id, .string who, .int .i64 ti, .int .i64 da, .slice A n c]).cell 4
                    go_simp
                    refine hK.out _ _ trivial (fun hHeld => ?_)
                    try simp only [Act.put]
                    refine wpAnyH_ready (rs := [6]) (by kernel_rfl) (by simp) ?_
                    refine AllReadyH.cons rfl (fun KK hK => ?_) AllReadyH.nil
                    go_simp
                    refine hK.out _ _ trivial (fun hHeld => ?_)
                    try simp only [Act.put]
                    have hR4 := hR2.add #[.string ⟨#[120]⟩, .string ⟨#[]⟩, .string ⟨#[65]⟩, .string ⟨#[110, 111, 116]⟩] 9
                    try simp only [size1] at hR4
                    clear hR2
                    refine wpAnyH_ready (rs := [7]) (by kernel_rfl) (by simp) ?_
                    refine AllReadyH.cons rfl (fun KK hK => ?_) AllReadyH.nil
                    go_simp
                    go_at_call 45
                    refine (spE_someN 1000 hR4 0 d4X rfl rfl (by decide) (by decide) rfl (by decide) (by omega)).mono ?_
                    rintro e w5 ⟨s5, rfl, HS5, hs5, hR5⟩
                    refine hK.out _ _ trivial (fun hHeld => ?_)
                    try simp only [Act.put]
                    replace hR5 := hR5.drop 0 rfl rfl
                    clear hR4
                    refine wpAnyH_take (i := 8) (v := .agg #[.string s2, .string s5]) rfl (by kernel_rfl) (by kernel_rfl) (by kernel_rfl) (fun _ _ _ h => h) (Or.inl ⟨by rfl, fun V hV => ?_⟩) hHeld ?_
                    · first | (go_simp; done) | (go_simp; rfl) | rfl
                    simp only [Act.put]
                    refine wpAnyH_ready (rs := [9]) (by kernel_rfl) (by simp) ?_
                    refine AllReadyH.cons rfl (fun KK hK => ?_) AllReadyH.nil
                    go_simp
                    refine hK.out _ _ trivial (fun hHeld => ?_)
                    try simp only [Act.put]
                    have hR6 := hR5.add #[.string s2, .string s5] 75
                    try simp only [size1] at hR6
                    clear hR5
                    refine wpAnyH_ready (rs := [10]) (by kernel_rfl) (by simp) ?_
                    refine AllReadyH.cons rfl (fun KK hK => ?_) AllReadyH.nil
                    have hRo := (hR6.front 1 rfl rfl).front 1 rfl rfl
                    refine step_app_spx rfl _ _ rfl rfl (one2r rfl rfl) hRo hn2 rfl rfl (fun A8 c8 w8 hR7 => ?_)
                    refine hK.out _ _ trivial (fun hHeld => ?_)
                    try simp only [Act.put]
                    have x4 := (hR7.nth 1 rfl : Blk w8 g _ #[.string id, .string who, .int .i64 ti, .int .i64 da, .slice A n c]).cell 4
                    have f4 := (hR7.nth 1 rfl : Blk w8 g _ #[.string id, .string who, .int .i64 ti, .int .i64 da, .slice A n c]).frozen 4
                    clear hRo hR6
                    refine wpAnyH_take (i := 11) (v := .pointer (some ⟨g, 4, none⟩)) rfl (by kernel_rfl) (by kernel_rfl) (by kernel_rfl) (fun _ _ _ h => h) (Or.inl ⟨by rfl, fun V hV => ?_⟩) hHeld ?_
                    · first | (go_simp; done) | (go_simp; rfl) | rfl
                    simp only [Act.put]
                    refine wpAnyH_ready (rs := [12]) (by kernel_rfl) (by simp) ?_
                    refine AllReadyH.cons rfl (fun KK hK => ?_) AllReadyH.nil
                    go_simp
                    refine hK.out _ _ trivial (fun hHeld => ?_)
                    try simp only [Act.put]
                    have hR8 := (hR7.front 1 rfl rfl).set_ 4 (.slice A8 (n + 1) c8)
                    refine wpAnyH_done (by kernel_rfl) ?_ _
                    have hF := hR8.front 1 rfl rfl
                    rw [show fs.flatMap prC ++ [Value.string s2, Value.string s5] = (fs ++ [((s2, s5) : Pr)]).flatMap prC from (fl_snoc fs (s2, s5)).symm] at hF
                    go_wp2_with fail
                    go_meet
                    exact ⟨id, who, ti, da, n + 1, r + 1 + 1 + 1 + 1, A8, c8, fs ++ [(s2, s5)], Lib.hid ⟨by simp [hnf], hidz, hwz, pr_snoc hfz hs2 hs5, by omega, htz, hdz⟩, Lib.hid (HT.out.symm.trans (srX_2 HSR.out HFV.out HQ.out h0 h1 HS2.out HS5.out)), by omega, hF⟩
                  refine AllReadyH.cons rfl (fun KK hK => ?_) AllReadyH.nil
                  go_simp
                  refine hK.out _ _ trivial (fun hHeld => ?_)
                  try simp only [Act.put]
                  have hR3 := hR2.add #[.string ⟨#[120]⟩, .string ⟨#[]⟩, .string ⟨#[65]⟩, .string ⟨#[110, 111, 116]⟩] 9
                  try simp only [size1] at hR3
                  clear hR2
                  refine wpAnyH_ready (rs := [1, 7]) (by kernel_rfl) (by simp) ?_
                  refine AllReadyH.cons rfl (fun KK hK => ?_) ?_
                  · have y4 := (hR3.nth 2 rfl : Blk _ g _ #[.string id, .string who, .int .i64 ti, .int .i64 da, .slice A n c]).cell 4
                    go_simp
                    refine hK.out _ _ trivial (fun hHeld => ?_)
                    try simp only [Act.put]
                    refine wpAnyH_ready (rs := [7]) (by kernel_rfl) (by simp) ?_
                    refine AllReadyH.cons rfl (fun KK hK => ?_) AllReadyH.nil
                    go_simp
                    go_at_call 45
                    refine (spE_someN 1000 hR3 0 d4X rfl rfl (by decide) (by decide) rfl (by decide) (by omega)).mono ?_
                    rintro e w5 ⟨s5, rfl, HS5, hs5, hR5⟩
                    refine hK.out _ _ trivial (fun hHeld => ?_)
                    try simp only [Act.put]
                    replace hR5 := hR5.drop 0 rfl rfl
                    clear hR3
                    refine wpAnyH_take (i := 8) (v := .agg #[.string s2, .string s5]) rfl (by kernel_rfl) (by kernel_rfl) (by kernel_rfl) (fun _ _ _ h => h) (Or.inl ⟨by rfl, fun V hV => ?_⟩) hHeld ?_
                    · first | (go_simp; done) | (go_simp; rfl) | rfl
                    simp only [Act.put]
                    refine wpAnyH_ready (rs := [9]) (by kernel_rfl) (by simp) ?_
                    refine AllReadyH.cons rfl (fun KK hK => ?_) AllReadyH.nil
                    go_simp
                    refine hK.out _ _ trivial (fun hHeld => ?_)
                    try simp only [Act.put]
                    have hR6 := hR5.add #[.string s2, .string s5] 75
                    try simp only [size1] at hR6
                    clear hR5
                    refine wpAnyH_ready (rs := [10]) (by kernel_rfl) (by simp) ?_
                    refine AllReadyH.cons rfl (fun KK hK => ?_) AllReadyH.nil
                    have hRo := (hR6.front 1 rfl rfl).front 1 rfl rfl
                    refine step_app_spx rfl _ _ rfl rfl (one2r rfl rfl) hRo hn2 rfl rfl (fun A8 c8 w8 hR7 => ?_)
                    refine hK.out _ _ trivial (fun hHeld => ?_)
                    try simp only [Act.put]
                    have x4 := (hR7.nth 1 rfl : Blk w8 g _ #[.string id, .string who, .int .i64 ti, .int .i64 da, .slice A n c]).cell 4
                    have f4 := (hR7.nth 1 rfl : Blk w8 g _ #[.string id, .string who, .int .i64 ti, .int .i64 da, .slice A n c]).frozen 4
                    clear hRo hR6
                    refine wpAnyH_take (i := 11) (v := .pointer (some ⟨g, 4, none⟩)) rfl (by kernel_rfl) (by kernel_rfl) (by kernel_rfl) (fun _ _ _ h => h) (Or.inl ⟨by rfl, fun V hV => ?_⟩) hHeld ?_
                    · first | (go_simp; done) | (go_simp; rfl) | rfl
                    simp only [Act.put]
                    refine wpAnyH_ready (rs := [12]) (by kernel_rfl) (by simp) ?_
                    refine AllReadyH.cons rfl (fun KK hK => ?_) AllReadyH.nil
                    go_simp
                    refine hK.out _ _ trivial (fun hHeld => ?_)
                    try simp only [Act.put]
                    have hR8 := (hR7.front 1 rfl rfl).set_ 4 (.slice A8 (n + 1) c8)
                    refine wpAnyH_done (by kernel_rfl) ?_ _
                    have hF := hR8.front 1 rfl rfl
                    rw [show fs.flatMap prC ++ [Value.string s2, Value.string s5] = (fs ++ [((s2, s5) : Pr)]).flatMap prC from (fl_snoc fs (s2, s5)).symm] at hF
                    go_wp2_with fail
                    go_meet
                    exact ⟨id, who, ti, da, n + 1, r + 1 + 1 + 1 + 1, A8, c8, fs ++ [(s2, s5)], Lib.hid ⟨by simp [hnf], hidz, hwz, pr_snoc hfz hs2 hs5, by omega, htz, hdz⟩, Lib.hid (HT.out.symm.trans (srX_2 HSR.out HFV.out HQ.out h0 h1 HS2.out HS5.out)), by omega, hF⟩
                  refine AllReadyH.cons rfl (fun KK hK => ?_) AllReadyH.nil
                  go_simp
                  go_at_call 45
                  refine (spE_someN 1000 hR3 0 d4X rfl rfl (by decide) (by decide) rfl (by decide) (by omega)).mono ?_
                  rintro e w4 ⟨s4, rfl, HS4, hs4, hR4⟩
                  refine hK.out _ _ trivial (fun hHeld => ?_)
                  try simp only [Act.put]
                  replace hR4 := hR4.drop 0 rfl rfl
                  clear hR3
                  refine wpAnyH_take (i := 8) (v := .agg #[.string s2, .string s4]) rfl (by kernel_rfl) (by kernel_rfl) (by kernel_rfl) (fun _ _ _ h => h) (Or.inl ⟨by rfl, fun V hV => ?_⟩) hHeld ?_
                  · first | (go_simp; done) | (go_simp; rfl) | rfl
                  simp only [Act.put]
                  refine wpAnyH_ready (rs := [1, 9]) (by kernel_rfl) (by simp) ?_
                  refine AllReadyH.cons rfl (fun KK hK => ?_) ?_
                  · have y4 := (hR4.nth 1 rfl : Blk _ g _ #[.string id, .string who, .int .i64 ti, .int .i64 da, .slice A n c]).cell 4
                    go_simp
                    refine hK.out _ _ trivial (fun hHeld => ?_)
                    try simp only [Act.put]
                    refine wpAnyH_ready (rs := [9]) (by kernel_rfl) (by simp) ?_
                    refine AllReadyH.cons rfl (fun KK hK => ?_) AllReadyH.nil
                    go_simp
                    refine hK.out _ _ trivial (fun hHeld => ?_)
                    try simp only [Act.put]
                    have hR6 := hR4.add #[.string s2, .string s4] 75
                    try simp only [size1] at hR6
                    clear hR4
                    refine wpAnyH_ready (rs := [10]) (by kernel_rfl) (by simp) ?_
                    refine AllReadyH.cons rfl (fun KK hK => ?_) AllReadyH.nil
                    have hRo := (hR6.front 1 rfl rfl).front 1 rfl rfl
                    refine step_app_spx rfl _ _ rfl rfl (one2r rfl rfl) hRo hn2 rfl rfl (fun A8 c8 w8 hR7 => ?_)
                    refine hK.out _ _ trivial (fun hHeld => ?_)
                    try simp only [Act.put]
                    have x4 := (hR7.nth 1 rfl : Blk w8 g _ #[.string id, .string who, .int .i64 ti, .int .i64 da, .slice A n c]).cell 4
                    have f4 := (hR7.nth 1 rfl : Blk w8 g _ #[.string id, .string who, .int .i64 ti, .int .i64 da, .slice A n c]).frozen 4
                    clear hRo hR6
                    refine wpAnyH_take (i := 11) (v := .pointer (some ⟨g, 4, none⟩)) rfl (by kernel_rfl) (by kernel_rfl) (by kernel_rfl) (fun _ _ _ h => h) (Or.inl ⟨by rfl, fun V hV => ?_⟩) hHeld ?_
                    · first | (go_simp; done) | (go_simp; rfl) | rfl
                    simp only [Act.put]
                    refine wpAnyH_ready (rs := [12]) (by kernel_rfl) (by simp) ?_
                    refine AllReadyH.cons rfl (fun KK hK => ?_) AllReadyH.nil
                    go_simp
                    refine hK.out _ _ trivial (fun hHeld => ?_)
                    try simp only [Act.put]
                    have hR8 := (hR7.front 1 rfl rfl).set_ 4 (.slice A8 (n + 1) c8)
                    refine wpAnyH_done (by kernel_rfl) ?_ _
                    have hF := hR8.front 1 rfl rfl
                    rw [show fs.flatMap prC ++ [Value.string s2, Value.string s4] = (fs ++ [((s2, s4) : Pr)]).flatMap prC from (fl_snoc fs (s2, s4)).symm] at hF
                    go_wp2_with fail
                    go_meet
                    exact ⟨id, who, ti, da, n + 1, r + 1 + 1 + 1 + 1, A8, c8, fs ++ [(s2, s4)], Lib.hid ⟨by simp [hnf], hidz, hwz, pr_snoc hfz hs2 hs4, by omega, htz, hdz⟩, Lib.hid (HT.out.symm.trans (srX_2 HSR.out HFV.out HQ.out h0 h1 HS2.out HS4.out)), by omega, hF⟩
                  refine AllReadyH.cons rfl (fun KK hK => ?_) AllReadyH.nil
                  go_simp
                  refine hK.out _ _ trivial (fun hHeld => ?_)
                  try simp only [Act.put]
                  have hR5 := hR4.add #[.string s2, .string s4] 75
                  try simp only [size1] at hR5
                  clear hR4
                  refine wpAnyH_ready (rs := [1]) (by kernel_rfl) (by simp) ?_
                  refine AllReadyH.cons rfl (fun KK hK => ?_) AllReadyH.nil
                  have y4 := (hR5.nth 2 rfl : Blk _ g _ #[.string id, .string who, .int .i64 ti, .int .i64 da, .slice A n c]).cell 4
                  go_simp
                  refine hK.out _ _ trivial (fun hHeld => ?_)
                  try simp only [Act.put]
                  refine wpAnyH_ready (rs := [10]) (by kernel_rfl) (by simp) ?_
                  refine AllReadyH.cons rfl (fun KK hK => ?_) AllReadyH.nil
                  have hRo := (hR5.front 1 rfl rfl).front 1 rfl rfl
                  refine step_app_spx rfl _ _ rfl rfl (one2r rfl rfl) hRo hn2 rfl rfl (fun A8 c8 w8 hR7 => ?_)
                  refine hK.out _ _ trivial (fun hHeld => ?_)
                  try simp only [Act.put]
                  have x4 := (hR7.nth 1 rfl : Blk w8 g _ #[.string id, .string who, .int .i64 ti, .int .i64 da, .slice A n c]).cell 4
                  have f4 := (hR7.nth 1 rfl : Blk w8 g _ #[.string id, .string who, .int .i64 ti, .int .i64 da, .slice A n c]).frozen 4
                  clear hRo hR5
                  refine wpAnyH_take (i := 11) (v := .pointer (some ⟨g, 4, none⟩)) rfl (by kernel_rfl) (by kernel_rfl) (by kernel_rfl) (fun _ _ _ h => h) (Or.inl ⟨by rfl, fun V hV => ?_⟩) hHeld ?_
                  · first | (go_simp; done) | (go_simp; rfl) | rfl
                  simp only [Act.put]
                  refine wpAnyH_ready (rs := [12]) (by kernel_rfl) (by simp) ?_
                  refine AllReadyH.cons rfl (fun KK hK => ?_) AllReadyH.nil
                  go_simp
                  refine hK.out _ _ trivial (fun hHeld => ?_)
                  try simp only [Act.put]
                  have hR8 := (hR7.front 1 rfl rfl).set_ 4 (.slice A8 (n + 1) c8)
                  refine wpAnyH_done (by kernel_rfl) ?_ _
                  have hF := hR8.front 1 rfl rfl
                  rw [show fs.flatMap prC ++ [Value.string s2, Value.string s4] = (fs ++ [((s2, s4) : Pr)]).flatMap prC from (fl_snoc fs (s2, s4)).symm] at hF
                  go_wp2_with fail
                  go_meet
                  exact ⟨id, who, ti, da, n + 1, r + 1 + 1 + 1 + 1, A8, c8, fs ++ [(s2, s4)], Lib.hid ⟨by simp [hnf], hidz, hwz, pr_snoc hfz hs2 hs4, by omega, htz, hdz⟩, Lib.hid (HT.out.symm.trans (srX_2 HSR.out HFV.out HQ.out h0 h1 HS2.out HS4.out)), by omega, hF⟩
                refine AllReadyH.cons rfl (fun KK hK => ?_) AllReadyH.nil
                go_simp
                refine hK.out _ _ trivial (fun hHeld => ?_)
                try simp only [Act.put]
                have hR2 := hR1.add #[.string ⟨#[120]⟩, .string ⟨#[]⟩, .string ⟨#[65]⟩, .string ⟨#[110, 111, 116]⟩] 9
                try simp only [size1] at hR2
                clear hR1
                refine wpAnyH_ready (rs := [1, 4]) (by kernel_rfl) (by simp) ?_
                refine AllReadyH.cons rfl (fun KK hK => ?_) ?_
                · have y4 := (hR2.nth 3 rfl : Blk _ g _ #[.string id, .string who, .int .i64 ti, .int .i64 da, .slice A n c]).cell 4
                  go_simp
                  refine hK.out _ _ trivial (fun hHeld => ?_)
                  try simp only [Act.put]
                  refine wpAnyH_ready (rs := [4]) (by kernel_rfl) (by simp) ?_
                  refine AllReadyH.cons rfl (fun KK hK => ?_) AllReadyH.nil
                  go_simp
                  go_at_call 45
                  refine (spE_someN 1000 hR2.drew 1 d5X rfl rfl (by decide) (by decide) rfl (by decide) (by omega)).mono ?_
                  rintro e w4 ⟨s4, rfl, HS4, hs4, hR4⟩
                  refine hK.out _ _ trivial (fun hHeld => ?_)
                  try simp only [Act.put]
                  replace hR4 := hR4.drop 1 rfl rfl
                  clear hR2
                  refine wpAnyH_ready (rs := [7]) (by kernel_rfl) (by simp) ?_
                  refine AllReadyH.cons rfl (fun KK hK => ?_) AllReadyH.nil
                  go_simp
                  go_at_call 45
                  refine (spE_someN 1000 hR4 0 d4X rfl rfl (by decide) (by decide) rfl (by decide) (by omega)).mono ?_
                  rintro e w5 ⟨s5, rfl, HS5, hs5, hR5⟩
                  refine hK.out _ _ trivial (fun hHeld => ?_)
                  try simp only [Act.put]
                  replace hR5 := hR5.drop 0 rfl rfl
                  clear hR4
                  refine wpAnyH_take (i := 8) (v := .agg #[.string s4, .string s5]) rfl (by kernel_rfl) (by kernel_rfl) (by kernel_rfl) (fun _ _ _ h => h) (Or.inl ⟨by rfl, fun V hV => ?_⟩) hHeld ?_
                  · first | (go_simp; done) | (go_simp; rfl) | rfl
                  simp only [Act.put]
                  refine wpAnyH_ready (rs := [9]) (by kernel_rfl) (by simp) ?_
                  refine AllReadyH.cons rfl (fun KK hK => ?_) AllReadyH.nil
                  go_simp
                  refine hK.out _ _ trivial (fun hHeld => ?_)
                  try simp only [Act.put]
                  have hR6 := hR5.add #[.string s4, .string s5] 75
                  try simp only [size1] at hR6
                  clear hR5
                  refine wpAnyH_ready (rs := [10]) (by kernel_rfl) (by simp) ?_
                  refine AllReadyH.cons rfl (fun KK hK => ?_) AllReadyH.nil
                  have hRo := (hR6.front 1 rfl rfl).front 1 rfl rfl
                  refine step_app_spx rfl _ _ rfl rfl (one2r rfl rfl) hRo hn2 rfl rfl (fun A8 c8 w8 hR7 => ?_)
                  refine hK.out _ _ trivial (fun hHeld => ?_)
                  try simp only [Act.put]
                  have x4 := (hR7.nth 1 rfl : Blk w8 g _ #[.string id, .string who, .int .i64 ti, .int .i64 da, .slice A n c]).cell 4
                  have f4 := (hR7.nth 1 rfl : Blk w8 g _ #[.string id, .string who, .int .i64 ti, .int .i64 da, .slice A n c]).frozen 4
                  clear hRo hR6
                  refine wpAnyH_take (i := 11) (v := .pointer (some ⟨g, 4, none⟩)) rfl (by kernel_rfl) (by kernel_rfl) (by kernel_rfl) (fun _ _ _ h => h) (Or.inl ⟨by rfl, fun V hV => ?_⟩) hHeld ?_
                  · first | (go_simp; done) | (go_simp; rfl) | rfl
                  simp only [Act.put]
                  refine wpAnyH_ready (rs := [12]) (by kernel_rfl) (by simp) ?_
                  refine AllReadyH.cons rfl (fun KK hK => ?_) AllReadyH.nil
                  go_simp
                  refine hK.out _ _ trivial (fun hHeld => ?_)
                  try simp only [Act.put]
                  have hR8 := (hR7.front 1 rfl rfl).set_ 4 (.slice A8 (n + 1) c8)
                  refine wpAnyH_done (by kernel_rfl) ?_ _
                  have hF := hR8.front 1 rfl rfl
                  rw [show fs.flatMap prC ++ [Value.string s4, Value.string s5] = (fs ++ [((s4, s5) : Pr)]).flatMap prC from (fl_snoc fs (s4, s5)).symm] at hF
                  go_wp2_with fail
                  go_meet
                  exact ⟨id, who, ti, da, n + 1, r + 1 + 1 + 1 + 1, A8, c8, fs ++ [(s4, s5)], Lib.hid ⟨by simp [hnf], hidz, hwz, pr_snoc hfz hs4 hs5, by omega, htz, hdz⟩, Lib.hid (HT.out.symm.trans (srX_2 HSR.out HFV.out HQ.out h0 h1 HS4.out HS5.out)), by omega, hF⟩
                refine AllReadyH.cons rfl (fun KK hK => ?_) AllReadyH.nil
                go_simp
                go_at_call 45
                refine (spE_someN 1000 hR2.drew 1 d5X rfl rfl (by decide) (by decide) rfl (by decide) (by omega)).mono ?_
                rintro e w3 ⟨s3, rfl, HS3, hs3, hR3⟩
                refine hK.out _ _ trivial (fun hHeld => ?_)
                try simp only [Act.put]
                replace hR3 := hR3.drop 1 rfl rfl
                clear hR2
                refine wpAnyH_ready (rs := [1, 7]) (by kernel_rfl) (by simp) ?_
                refine AllReadyH.cons rfl (fun KK hK => ?_) ?_
                · have y4 := (hR3.nth 2 rfl : Blk _ g _ #[.string id, .string who, .int .i64 ti, .int .i64 da, .slice A n c]).cell 4
                  go_simp
                  refine hK.out _ _ trivial (fun hHeld => ?_)
                  try simp only [Act.put]
                  refine wpAnyH_ready (rs := [7]) (by kernel_rfl) (by simp) ?_
                  refine AllReadyH.cons rfl (fun KK hK => ?_) AllReadyH.nil
                  go_simp
                  go_at_call 45
                  refine (spE_someN 1000 hR3 0 d4X rfl rfl (by decide) (by decide) rfl (by decide) (by omega)).mono ?_
                  rintro e w5 ⟨s5, rfl, HS5, hs5, hR5⟩
                  refine hK.out _ _ trivial (fun hHeld => ?_)
                  try simp only [Act.put]
                  replace hR5 := hR5.drop 0 rfl rfl
                  clear hR3
                  refine wpAnyH_take (i := 8) (v := .agg #[.string s3, .string s5]) rfl (by kernel_rfl) (by kernel_rfl) (by kernel_rfl) (fun _ _ _ h => h) (Or.inl ⟨by rfl, fun V hV => ?_⟩) hHeld ?_
                  · first | (go_simp; done) | (go_simp; rfl) | rfl
                  simp only [Act.put]
                  refine wpAnyH_ready (rs := [9]) (by kernel_rfl) (by simp) ?_
                  refine AllReadyH.cons rfl (fun KK hK => ?_) AllReadyH.nil
                  go_simp
                  refine hK.out _ _ trivial (fun hHeld => ?_)
                  try simp only [Act.put]
                  have hR6 := hR5.add #[.string s3, .string s5] 75
                  try simp only [size1] at hR6
                  clear hR5
                  refine wpAnyH_ready (rs := [10]) (by kernel_rfl) (by simp) ?_
                  refine AllReadyH.cons rfl (fun KK hK => ?_) AllReadyH.nil
                  have hRo := (hR6.front 1 rfl rfl).front 1 rfl rfl
                  refine step_app_spx rfl _ _ rfl rfl (one2r rfl rfl) hRo hn2 rfl rfl (fun A8 c8 w8 hR7 => ?_)
                  refine hK.out _ _ trivial (fun hHeld => ?_)
                  try simp only [Act.put]
                  have x4 := (hR7.nth 1 rfl : Blk w8 g _ #[.string id, .string who, .int .i64 ti, .int .i64 da, .slice A n c]).cell 4
                  have f4 := (hR7.nth 1 rfl : Blk w8 g _ #[.string id, .string who, .int .i64 ti, .int .i64 da, .slice A n c]).frozen 4
                  clear hRo hR6
                  refine wpAnyH_take (i := 11) (v := .pointer (some ⟨g, 4, none⟩)) rfl (by kernel_rfl) (by kernel_rfl) (by kernel_rfl) (fun _ _ _ h => h) (Or.inl ⟨by rfl, fun V hV => ?_⟩) hHeld ?_
                  · first | (go_simp; done) | (go_simp; rfl) | rfl
                  simp only [Act.put]
                  refine wpAnyH_ready (rs := [12]) (by kernel_rfl) (by simp) ?_
                  refine AllReadyH.cons rfl (fun KK hK => ?_) AllReadyH.nil
                  go_simp
                  refine hK.out _ _ trivial (fun hHeld => ?_)
                  try simp only [Act.put]
                  have hR8 := (hR7.front 1 rfl rfl).set_ 4 (.slice A8 (n + 1) c8)
                  refine wpAnyH_done (by kernel_rfl) ?_ _
                  have hF := hR8.front 1 rfl rfl
                  rw [show fs.flatMap prC ++ [Value.string s3, Value.string s5] = (fs ++ [((s3, s5) : Pr)]).flatMap prC from (fl_snoc fs (s3, s5)).symm] at hF
                  go_wp2_with fail
                  go_meet
                  exact ⟨id, who, ti, da, n + 1, r + 1 + 1 + 1 + 1, A8, c8, fs ++ [(s3, s5)], Lib.hid ⟨by simp [hnf], hidz, hwz, pr_snoc hfz hs3 hs5, by omega, htz, hdz⟩, Lib.hid (HT.out.symm.trans (srX_2 HSR.out HFV.out HQ.out h0 h1 HS3.out HS5.out)), by omega, hF⟩
                refine AllReadyH.cons rfl (fun KK hK => ?_) AllReadyH.nil
                go_simp
                go_at_call 45
                refine (spE_someN 1000 hR3 0 d4X rfl rfl (by decide) (by decide) rfl (by decide) (by omega)).mono ?_
                rintro e w4 ⟨s4, rfl, HS4, hs4, hR4⟩
                refine hK.out _ _ trivial (fun hHeld => ?_)
                try simp only [Act.put]
                replace hR4 := hR4.drop 0 rfl rfl
                clear hR3
                refine wpAnyH_take (i := 8) (v := .agg #[.string s3, .string s4]) rfl (by kernel_rfl) (by kernel_rfl) (by kernel_rfl) (fun _ _ _ h => h) (Or.inl ⟨by rfl, fun V hV => ?_⟩) hHeld ?_
                · first | (go_simp; done) | (go_simp; rfl) | rfl
                simp only [Act.put]
                refine wpAnyH_ready (rs := [1, 9]) (by kernel_rfl) (by simp) ?_
                refine AllReadyH.cons rfl (fun KK hK => ?_) ?_
                · have y4 := (hR4.nth 1 rfl : Blk _ g _ #[.string id, .string who, .int .i64 ti, .int .i64 da, .slice A n c]).cell 4
                  go_simp
                  refine hK.out _ _ trivial (fun hHeld => ?_)
                  try simp only [Act.put]
                  refine wpAnyH_ready (rs := [9]) (by kernel_rfl) (by simp) ?_
                  refine AllReadyH.cons rfl (fun KK hK => ?_) AllReadyH.nil
                  go_simp
                  refine hK.out _ _ trivial (fun hHeld => ?_)
                  try simp only [Act.put]
                  have hR6 := hR4.add #[.string s3, .string s4] 75
                  try simp only [size1] at hR6
                  clear hR4
                  refine wpAnyH_ready (rs := [10]) (by kernel_rfl) (by simp) ?_
                  refine AllReadyH.cons rfl (fun KK hK => ?_) AllReadyH.nil
                  have hRo := (hR6.front 1 rfl rfl).front 1 rfl rfl
                  refine step_app_spx rfl _ _ rfl rfl (one2r rfl rfl) hRo hn2 rfl rfl (fun A8 c8 w8 hR7 => ?_)
                  refine hK.out _ _ trivial (fun hHeld => ?_)
                  try simp only [Act.put]
                  have x4 := (hR7.nth 1 rfl : Blk w8 g _ #[.string id, .string who, .int .i64 ti, .int .i64 da, .slice A n c]).cell 4
                  have f4 := (hR7.nth 1 rfl : Blk w8 g _ #[.string id, .string who, .int .i64 ti, .int .i64 da, .slice A n c]).frozen 4
                  clear hRo hR6
                  refine wpAnyH_take (i := 11) (v := .pointer (some ⟨g, 4, none⟩)) rfl (by kernel_rfl) (by kernel_rfl) (by kernel_rfl) (fun _ _ _ h => h) (Or.inl ⟨by rfl, fun V hV => ?_⟩) hHeld ?_
                  · first | (go_simp; done) | (go_simp; rfl) | rfl
                  simp only [Act.put]
                  refine wpAnyH_ready (rs := [12]) (by kernel_rfl) (by simp) ?_
                  refine AllReadyH.cons rfl (fun KK hK => ?_) AllReadyH.nil
                  go_simp
                  refine hK.out _ _ trivial (fun hHeld => ?_)
                  try simp only [Act.put]
                  have hR8 := (hR7.front 1 rfl rfl).set_ 4 (.slice A8 (n + 1) c8)
                  refine wpAnyH_done (by kernel_rfl) ?_ _
                  have hF := hR8.front 1 rfl rfl
                  rw [show fs.flatMap prC ++ [Value.string s3, Value.string s4] = (fs ++ [((s3, s4) : Pr)]).flatMap prC from (fl_snoc fs (s3, s4)).symm] at hF
                  go_wp2_with fail
                  go_meet
                  exact ⟨id, who, ti, da, n + 1, r + 1 + 1 + 1 + 1, A8, c8, fs ++ [(s3, s4)], Lib.hid ⟨by simp [hnf], hidz, hwz, pr_snoc hfz hs3 hs4, by omega, htz, hdz⟩, Lib.hid (HT.out.symm.trans (srX_2 HSR.out HFV.out HQ.out h0 h1 HS3.out HS4.out)), by omega, hF⟩
                refine AllReadyH.cons rfl (fun KK hK => ?_) AllReadyH.nil
                go_simp
                refine hK.out _ _ trivial (fun hHeld => ?_)
                try simp only [Act.put]
                have hR5 := hR4.add #[.string s3, .string s4] 75
                try simp only [size1] at hR5
                clear hR4
                refine wpAnyH_ready (rs := [1]) (by kernel_rfl) (by simp) ?_
                refine AllReadyH.cons rfl (fun KK hK => ?_) AllReadyH.nil
                have y4 := (hR5.nth 2 rfl : Blk _ g _ #[.string id, .string who, .int .i64 ti, .int .i64 da, .slice A n c]).cell 4
                go_simp
                refine hK.out _ _ trivial (fun hHeld => ?_)
                try simp only [Act.put]
                refine wpAnyH_ready (rs := [10]) (by kernel_rfl) (by simp) ?_
                refine AllReadyH.cons rfl (fun KK hK => ?_) AllReadyH.nil
                have hRo := (hR5.front 1 rfl rfl).front 1 rfl rfl
                refine step_app_spx rfl _ _ rfl rfl (one2r rfl rfl) hRo hn2 rfl rfl (fun A8 c8 w8 hR7 => ?_)
                refine hK.out _ _ trivial (fun hHeld => ?_)
                try simp only [Act.put]
                have x4 := (hR7.nth 1 rfl : Blk w8 g _ #[.string id, .string who, .int .i64 ti, .int .i64 da, .slice A n c]).cell 4
                have f4 := (hR7.nth 1 rfl : Blk w8 g _ #[.string id, .string who, .int .i64 ti, .int .i64 da, .slice A n c]).frozen 4
                clear hRo hR5
                refine wpAnyH_take (i := 11) (v := .pointer (some ⟨g, 4, none⟩)) rfl (by kernel_rfl) (by kernel_rfl) (by kernel_rfl) (fun _ _ _ h => h) (Or.inl ⟨by rfl, fun V hV => ?_⟩) hHeld ?_
                · first | (go_simp; done) | (go_simp; rfl) | rfl
                simp only [Act.put]
                refine wpAnyH_ready (rs := [12]) (by kernel_rfl) (by simp) ?_
                refine AllReadyH.cons rfl (fun KK hK => ?_) AllReadyH.nil
                go_simp
                refine hK.out _ _ trivial (fun hHeld => ?_)
                try simp only [Act.put]
                have hR8 := (hR7.front 1 rfl rfl).set_ 4 (.slice A8 (n + 1) c8)
                refine wpAnyH_done (by kernel_rfl) ?_ _
                have hF := hR8.front 1 rfl rfl
                rw [show fs.flatMap prC ++ [Value.string s3, Value.string s4] = (fs ++ [((s3, s4) : Pr)]).flatMap prC from (fl_snoc fs (s3, s4)).symm] at hF
                go_wp2_with fail
                go_meet
                exact ⟨id, who, ti, da, n + 1, r + 1 + 1 + 1 + 1, A8, c8, fs ++ [(s3, s4)], Lib.hid ⟨by simp [hnf], hidz, hwz, pr_snoc hfz hs3 hs4, by omega, htz, hdz⟩, Lib.hid (HT.out.symm.trans (srX_2 HSR.out HFV.out HQ.out h0 h1 HS3.out HS4.out)), by omega, hF⟩
              refine AllReadyH.cons rfl (fun KK hK => ?_) AllReadyH.nil
              go_simp
              refine hK.out _ _ trivial (fun hHeld => ?_)
              try simp only [Act.put]
              have hR1 := hS.add #[.string ⟨#[120]⟩, .string ⟨#[]⟩, .string ⟨#[65]⟩, .string ⟨#[110, 111, 116]⟩] 9
              try simp only [size1] at hR1
              refine wpAnyH_ready (rs := [1, 3]) (by kernel_rfl) (by simp) ?_
              refine AllReadyH.cons rfl (fun KK hK => ?_) ?_
              · have y4 := (hR1.nth 2 rfl : Blk _ g _ #[.string id, .string who, .int .i64 ti, .int .i64 da, .slice A n c]).cell 4
                go_simp
                refine hK.out _ _ trivial (fun hHeld => ?_)
                try simp only [Act.put]
                refine wpAnyH_ready (rs := [3]) (by kernel_rfl) (by simp) ?_
                refine AllReadyH.cons rfl (fun KK hK => ?_) AllReadyH.nil
                go_simp
                refine hK.out _ _ trivial (fun hHeld => ?_)
                try simp only [Act.put]
                have hR3 := hR1.add #[.string ⟨#[100]⟩, .string ⟨#[97]⟩, .string ⟨#[116, 105, 109, 101]⟩, .string ⟨#[111, 114]⟩, .string ⟨#[]⟩] 9
                try simp only [size1] at hR3
                clear hR1
                refine wpAnyH_ready (rs := [4]) (by kernel_rfl) (by simp) ?_
                refine AllReadyH.cons rfl (fun KK hK => ?_) AllReadyH.nil
                go_simp
                go_at_call 45
                refine (spE_someN 1000 hR3.drew 0 d5X rfl rfl (by decide) (by decide) rfl (by decide) (by omega)).mono ?_
                rintro e w4 ⟨s4, rfl, HS4, hs4, hR4⟩
                refine hK.out _ _ trivial (fun hHeld => ?_)
                try simp only [Act.put]
                replace hR4 := hR4.drop 0 rfl rfl
                clear hR3
                refine wpAnyH_ready (rs := [7]) (by kernel_rfl) (by simp) ?_
                refine AllReadyH.cons rfl (fun KK hK => ?_) AllReadyH.nil
                go_simp
                go_at_call 45
                refine (spE_someN 1000 hR4 0 d4X rfl rfl (by decide) (by decide) rfl (by decide) (by omega)).mono ?_
                rintro e w5 ⟨s5, rfl, HS5, hs5, hR5⟩
                refine hK.out _ _ trivial (fun hHeld => ?_)
                try simp only [Act.put]
                replace hR5 := hR5.drop 0 rfl rfl
                clear hR4
                refine wpAnyH_take (i := 8) (v := .agg #[.string s4, .string s5]) rfl (by kernel_rfl) (by kernel_rfl) (by kernel_rfl) (fun _ _ _ h => h) (Or.inl ⟨by rfl, fun V hV => ?_⟩) hHeld ?_
                · first | (go_simp; done) | (go_simp; rfl) | rfl
                simp only [Act.put]
                refine wpAnyH_ready (rs := [9]) (by kernel_rfl) (by simp) ?_
                refine AllReadyH.cons rfl (fun KK hK => ?_) AllReadyH.nil
                go_simp
                refine hK.out _ _ trivial (fun hHeld => ?_)
                try simp only [Act.put]
                have hR6 := hR5.add #[.string s4, .string s5] 75
                try simp only [size1] at hR6
                clear hR5
                refine wpAnyH_ready (rs := [10]) (by kernel_rfl) (by simp) ?_
                refine AllReadyH.cons rfl (fun KK hK => ?_) AllReadyH.nil
                have hRo := (hR6.front 1 rfl rfl).front 1 rfl rfl
                refine step_app_spx rfl _ _ rfl rfl (one2r rfl rfl) hRo hn2 rfl rfl (fun A8 c8 w8 hR7 => ?_)
                refine hK.out _ _ trivial (fun hHeld => ?_)
                try simp only [Act.put]
                have x4 := (hR7.nth 1 rfl : Blk w8 g _ #[.string id, .string who, .int .i64 ti, .int .i64 da, .slice A n c]).cell 4
                have f4 := (hR7.nth 1 rfl : Blk w8 g _ #[.string id, .string who, .int .i64 ti, .int .i64 da, .slice A n c]).frozen 4
                clear hRo hR6
                refine wpAnyH_take (i := 11) (v := .pointer (some ⟨g, 4, none⟩)) rfl (by kernel_rfl) (by kernel_rfl) (by kernel_rfl) (fun _ _ _ h => h) (Or.inl ⟨by rfl, fun V hV => ?_⟩) hHeld ?_
                · first | (go_simp; done) | (go_simp; rfl) | rfl
                simp only [Act.put]
                refine wpAnyH_ready (rs := [12]) (by kernel_rfl) (by simp) ?_
                refine AllReadyH.cons rfl (fun KK hK => ?_) AllReadyH.nil
                go_simp
                refine hK.out _ _ trivial (fun hHeld => ?_)
                try simp only [Act.put]
                have hR8 := (hR7.front 1 rfl rfl).set_ 4 (.slice A8 (n + 1) c8)
                refine wpAnyH_done (by kernel_rfl) ?_ _
                have hF := hR8.front 1 rfl rfl
                rw [show fs.flatMap prC ++ [Value.string s4, Value.string s5] = (fs ++ [((s4, s5) : Pr)]).flatMap prC from (fl_snoc fs (s4, s5)).symm] at hF
                go_wp2_with fail
                go_meet
                exact ⟨id, who, ti, da, n + 1, r + 1 + 1 + 1 + 1, A8, c8, fs ++ [(s4, s5)], Lib.hid ⟨by simp [hnf], hidz, hwz, pr_snoc hfz hs4 hs5, by omega, htz, hdz⟩, Lib.hid (HT.out.symm.trans (srX_2 HSR.out HFV.out HQ.out h0 h1 HS4.out HS5.out)), by omega, hF⟩
              refine AllReadyH.cons rfl (fun KK hK => ?_) AllReadyH.nil
              go_simp
              refine hK.out _ _ trivial (fun hHeld => ?_)
              try simp only [Act.put]
              have hR2 := hR1.add #[.string ⟨#[100]⟩, .string ⟨#[97]⟩, .string ⟨#[116, 105, 109, 101]⟩, .string ⟨#[111, 114]⟩, .string ⟨#[]⟩] 9
              try simp only [size1] at hR2
              clear hR1
              refine wpAnyH_ready (rs := [1, 4]) (by kernel_rfl) (by simp) ?_
              refine AllReadyH.cons rfl (fun KK hK => ?_) ?_
              · have y4 := (hR2.nth 3 rfl : Blk _ g _ #[.string id, .string who, .int .i64 ti, .int .i64 da, .slice A n c]).cell 4
                go_simp
                refine hK.out _ _ trivial (fun hHeld => ?_)
                try simp only [Act.put]
                refine wpAnyH_ready (rs := [4]) (by kernel_rfl) (by simp) ?_
                refine AllReadyH.cons rfl (fun KK hK => ?_) AllReadyH.nil
                go_simp
                go_at_call 45
                refine (spE_someN 1000 hR2.drew 0 d5X rfl rfl (by decide) (by decide) rfl (by decide) (by omega)).mono ?_
                rintro e w4 ⟨s4, rfl, HS4, hs4, hR4⟩
                refine hK.out _ _ trivial (fun hHeld => ?_)
                try simp only [Act.put]
                replace hR4 := hR4.drop 0 rfl rfl
                clear hR2
                refine wpAnyH_ready (rs := [7]) (by kernel_rfl) (by simp) ?_
                refine AllReadyH.cons rfl (fun KK hK => ?_) AllReadyH.nil
                go_simp
                go_at_call 45
                refine (spE_someN 1000 hR4 0 d4X rfl rfl (by decide) (by decide) rfl (by decide) (by omega)).mono ?_
                rintro e w5 ⟨s5, rfl, HS5, hs5, hR5⟩
                refine hK.out _ _ trivial (fun hHeld => ?_)
                try simp only [Act.put]
                replace hR5 := hR5.drop 0 rfl rfl
                clear hR4
                refine wpAnyH_take (i := 8) (v := .agg #[.string s4, .string s5]) rfl (by kernel_rfl) (by kernel_rfl) (by kernel_rfl) (fun _ _ _ h => h) (Or.inl ⟨by rfl, fun V hV => ?_⟩) hHeld ?_
                · first | (go_simp; done) | (go_simp; rfl) | rfl
                simp only [Act.put]
                refine wpAnyH_ready (rs := [9]) (by kernel_rfl) (by simp) ?_
                refine AllReadyH.cons rfl (fun KK hK => ?_) AllReadyH.nil
                go_simp
                refine hK.out _ _ trivial (fun hHeld => ?_)
                try simp only [Act.put]
                have hR6 := hR5.add #[.string s4, .string s5] 75
                try simp only [size1] at hR6
                clear hR5
                refine wpAnyH_ready (rs := [10]) (by kernel_rfl) (by simp) ?_
                refine AllReadyH.cons rfl (fun KK hK => ?_) AllReadyH.nil
                have hRo := (hR6.front 1 rfl rfl).front 1 rfl rfl
                refine step_app_spx rfl _ _ rfl rfl (one2r rfl rfl) hRo hn2 rfl rfl (fun A8 c8 w8 hR7 => ?_)
                refine hK.out _ _ trivial (fun hHeld => ?_)
                try simp only [Act.put]
                have x4 := (hR7.nth 1 rfl : Blk w8 g _ #[.string id, .string who, .int .i64 ti, .int .i64 da, .slice A n c]).cell 4
                have f4 := (hR7.nth 1 rfl : Blk w8 g _ #[.string id, .string who, .int .i64 ti, .int .i64 da, .slice A n c]).frozen 4
                clear hRo hR6
                refine wpAnyH_take (i := 11) (v := .pointer (some ⟨g, 4, none⟩)) rfl (by kernel_rfl) (by kernel_rfl) (by kernel_rfl) (fun _ _ _ h => h) (Or.inl ⟨by rfl, fun V hV => ?_⟩) hHeld ?_
                · first | (go_simp; done) | (go_simp; rfl) | rfl
                simp only [Act.put]
                refine wpAnyH_ready (rs := [12]) (by kernel_rfl) (by simp) ?_
                refine AllReadyH.cons rfl (fun KK hK => ?_) AllReadyH.nil
                go_simp
                refine hK.out _ _ trivial (fun hHeld => ?_)
                try simp only [Act.put]
                have hR8 := (hR7.front 1 rfl rfl).set_ 4 (.slice A8 (n + 1) c8)
                refine wpAnyH_done (by kernel_rfl) ?_ _
                have hF := hR8.front 1 rfl rfl
                rw [show fs.flatMap prC ++ [Value.string s4, Value.string s5] = (fs ++ [((s4, s5) : Pr)]).flatMap prC from (fl_snoc fs (s4, s5)).symm] at hF
                go_wp2_with fail
                go_meet
                exact ⟨id, who, ti, da, n + 1, r + 1 + 1 + 1 + 1, A8, c8, fs ++ [(s4, s5)], Lib.hid ⟨by simp [hnf], hidz, hwz, pr_snoc hfz hs4 hs5, by omega, htz, hdz⟩, Lib.hid (HT.out.symm.trans (srX_2 HSR.out HFV.out HQ.out h0 h1 HS4.out HS5.out)), by omega, hF⟩
              refine AllReadyH.cons rfl (fun KK hK => ?_) AllReadyH.nil
              go_simp
              go_at_call 45
              refine (spE_someN 1000 hR2.drew 0 d5X rfl rfl (by decide) (by decide) rfl (by decide) (by omega)).mono ?_
              rintro e w3 ⟨s3, rfl, HS3, hs3, hR3⟩
              refine hK.out _ _ trivial (fun hHeld => ?_)
              try simp only [Act.put]
              replace hR3 := hR3.drop 0 rfl rfl
              clear hR2
              refine wpAnyH_ready (rs := [1, 7]) (by kernel_rfl) (by simp) ?_
              refine AllReadyH.cons rfl (fun KK hK => ?_) ?_
              · have y4 := (hR3.nth 2 rfl : Blk _ g _ #[.string id, .string who, .int .i64 ti, .int .i64 da, .slice A n c]).cell 4
                go_simp
                refine hK.out _ _ trivial (fun hHeld => ?_)
                try simp only [Act.put]
                refine wpAnyH_ready (rs := [7]) (by kernel_rfl) (by simp) ?_
                refine AllReadyH.cons rfl (fun KK hK => ?_) AllReadyH.nil
                go_simp
                go_at_call 45
                refine (spE_someN 1000 hR3 0 d4X rfl rfl (by decide) (by decide) rfl (by decide) (by omega)).mono ?_
                rintro e w5 ⟨s5, rfl, HS5, hs5, hR5⟩
                refine hK.out _ _ trivial (fun hHeld => ?_)
                try simp only [Act.put]
                replace hR5 := hR5.drop 0 rfl rfl
                clear hR3
                refine wpAnyH_take (i := 8) (v := .agg #[.string s3, .string s5]) rfl (by kernel_rfl) (by kernel_rfl) (by kernel_rfl) (fun _ _ _ h => h) (Or.inl ⟨by rfl, fun V hV => ?_⟩) hHeld ?_
                · first | (go_simp; done) | (go_simp; rfl) | rfl
                simp only [Act.put]
                refine wpAnyH_ready (rs := [9]) (by kernel_rfl) (by simp) ?_
                refine AllReadyH.cons rfl (fun KK hK => ?_) AllReadyH.nil
                go_simp
                refine hK.out _ _ trivial (fun hHeld => ?_)
                try simp only [Act.put]
                have hR6 := hR5.add #[.string s3, .string s5] 75
                try simp only [size1] at hR6
                clear hR5
                refine wpAnyH_ready (rs := [10]) (by kernel_rfl) (by simp) ?_
                refine AllReadyH.cons rfl (fun KK hK => ?_) AllReadyH.nil
                have hRo := (hR6.front 1 rfl rfl).front 1 rfl rfl
                refine step_app_spx rfl _ _ rfl rfl (one2r rfl rfl) hRo hn2 rfl rfl (fun A8 c8 w8 hR7 => ?_)
                refine hK.out _ _ trivial (fun hHeld => ?_)
                try simp only [Act.put]
                have x4 := (hR7.nth 1 rfl : Blk w8 g _ #[.string id, .string who, .int .i64 ti, .int .i64 da, .slice A n c]).cell 4
                have f4 := (hR7.nth 1 rfl : Blk w8 g _ #[.string id, .string who, .int .i64 ti, .int .i64 da, .slice A n c]).frozen 4
                clear hRo hR6
                refine wpAnyH_take (i := 11) (v := .pointer (some ⟨g, 4, none⟩)) rfl (by kernel_rfl) (by kernel_rfl) (by kernel_rfl) (fun _ _ _ h => h) (Or.inl ⟨by rfl, fun V hV => ?_⟩) hHeld ?_
                · first | (go_simp; done) | (go_simp; rfl) | rfl
                simp only [Act.put]
                refine wpAnyH_ready (rs := [12]) (by kernel_rfl) (by simp) ?_
                refine AllReadyH.cons rfl (fun KK hK => ?_) AllReadyH.nil
                go_simp
                refine hK.out _ _ trivial (fun hHeld => ?_)
                try simp only [Act.put]
                have hR8 := (hR7.front 1 rfl rfl).set_ 4 (.slice A8 (n + 1) c8)
                refine wpAnyH_done (by kernel_rfl) ?_ _
                have hF := hR8.front 1 rfl rfl
                rw [show fs.flatMap prC ++ [Value.string s3, Value.string s5] = (fs ++ [((s3, s5) : Pr)]).flatMap prC from (fl_snoc fs (s3, s5)).symm] at hF
                go_wp2_with fail
                go_meet
                exact ⟨id, who, ti, da, n + 1, r + 1 + 1 + 1 + 1, A8, c8, fs ++ [(s3, s5)], Lib.hid ⟨by simp [hnf], hidz, hwz, pr_snoc hfz hs3 hs5, by omega, htz, hdz⟩, Lib.hid (HT.out.symm.trans (srX_2 HSR.out HFV.out HQ.out h0 h1 HS3.out HS5.out)), by omega, hF⟩
              refine AllReadyH.cons rfl (fun KK hK => ?_) AllReadyH.nil
              go_simp
              go_at_call 45
              refine (spE_someN 1000 hR3 0 d4X rfl rfl (by decide) (by decide) rfl (by decide) (by omega)).mono ?_
              rintro e w4 ⟨s4, rfl, HS4, hs4, hR4⟩
              refine hK.out _ _ trivial (fun hHeld => ?_)
              try simp only [Act.put]
              replace hR4 := hR4.drop 0 rfl rfl
              clear hR3
              refine wpAnyH_take (i := 8) (v := .agg #[.string s3, .string s4]) rfl (by kernel_rfl) (by kernel_rfl) (by kernel_rfl) (fun _ _ _ h => h) (Or.inl ⟨by rfl, fun V hV => ?_⟩) hHeld ?_
              · first | (go_simp; done) | (go_simp; rfl) | rfl
              simp only [Act.put]
              refine wpAnyH_ready (rs := [1, 9]) (by kernel_rfl) (by simp) ?_
              refine AllReadyH.cons rfl (fun KK hK => ?_) ?_
              · have y4 := (hR4.nth 1 rfl : Blk _ g _ #[.string id, .string who, .int .i64 ti, .int .i64 da, .slice A n c]).cell 4
                go_simp
                refine hK.out _ _ trivial (fun hHeld => ?_)
                try simp only [Act.put]
                refine wpAnyH_ready (rs := [9]) (by kernel_rfl) (by simp) ?_
                refine AllReadyH.cons rfl (fun KK hK => ?_) AllReadyH.nil
                go_simp
                refine hK.out _ _ trivial (fun hHeld => ?_)
                try simp only [Act.put]
                have hR6 := hR4.add #[.string s3, .string s4] 75
                try simp only [size1] at hR6
                clear hR4
                refine wpAnyH_ready (rs := [10]) (by kernel_rfl) (by simp) ?_
                refine AllReadyH.cons rfl (fun KK hK => ?_) AllReadyH.nil
                have hRo := (hR6.front 1 rfl rfl).front 1 rfl rfl
                refine step_app_spx rfl _ _ rfl rfl (one2r rfl rfl) hRo hn2 rfl rfl (fun A8 c8 w8 hR7 => ?_)
                refine hK.out _ _ trivial (fun hHeld => ?_)
                try simp only [Act.put]
                have x4 := (hR7.nth 1 rfl : Blk w8 g _ #[.string id, .string who, .int .i64 ti, .int .i64 da, .slice A n c]).cell 4
                have f4 := (hR7.nth 1 rfl : Blk w8 g _ #[.string id, .string who, .int .i64 ti, .int .i64 da, .slice A n c]).frozen 4
                clear hRo hR6
                refine wpAnyH_take (i := 11) (v := .pointer (some ⟨g, 4, none⟩)) rfl (by kernel_rfl) (by kernel_rfl) (by kernel_rfl) (fun _ _ _ h => h) (Or.inl ⟨by rfl, fun V hV => ?_⟩) hHeld ?_
                · first | (go_simp; done) | (go_simp; rfl) | rfl
                simp only [Act.put]
                refine wpAnyH_ready (rs := [12]) (by kernel_rfl) (by simp) ?_
                refine AllReadyH.cons rfl (fun KK hK => ?_) AllReadyH.nil
                go_simp
                refine hK.out _ _ trivial (fun hHeld => ?_)
                try simp only [Act.put]
                have hR8 := (hR7.front 1 rfl rfl).set_ 4 (.slice A8 (n + 1) c8)
                refine wpAnyH_done (by kernel_rfl) ?_ _
                have hF := hR8.front 1 rfl rfl
                rw [show fs.flatMap prC ++ [Value.string s3, Value.string s4] = (fs ++ [((s3, s4) : Pr)]).flatMap prC from (fl_snoc fs (s3, s4)).symm] at hF
                go_wp2_with fail
                go_meet
                exact ⟨id, who, ti, da, n + 1, r + 1 + 1 + 1 + 1, A8, c8, fs ++ [(s3, s4)], Lib.hid ⟨by simp [hnf], hidz, hwz, pr_snoc hfz hs3 hs4, by omega, htz, hdz⟩, Lib.hid (HT.out.symm.trans (srX_2 HSR.out HFV.out HQ.out h0 h1 HS3.out HS4.out)), by omega, hF⟩
              refine AllReadyH.cons rfl (fun KK hK => ?_) AllReadyH.nil
              go_simp
              refine hK.out _ _ trivial (fun hHeld => ?_)
              try simp only [Act.put]
              have hR5 := hR4.add #[.string s3, .string s4] 75
              try simp only [size1] at hR5
              clear hR4
              refine wpAnyH_ready (rs := [1]) (by kernel_rfl) (by simp) ?_
              refine AllReadyH.cons rfl (fun KK hK => ?_) AllReadyH.nil
              have y4 := (hR5.nth 2 rfl : Blk _ g _ #[.string id, .string who, .int .i64 ti, .int .i64 da, .slice A n c]).cell 4
              go_simp
              refine hK.out _ _ trivial (fun hHeld => ?_)
              try simp only [Act.put]
              refine wpAnyH_ready (rs := [10]) (by kernel_rfl) (by simp) ?_
              refine AllReadyH.cons rfl (fun KK hK => ?_) AllReadyH.nil
              have hRo := (hR5.front 1 rfl rfl).front 1 rfl rfl
              refine step_app_spx rfl _ _ rfl rfl (one2r rfl rfl) hRo hn2 rfl rfl (fun A8 c8 w8 hR7 => ?_)
              refine hK.out _ _ trivial (fun hHeld => ?_)
              try simp only [Act.put]
              have x4 := (hR7.nth 1 rfl : Blk w8 g _ #[.string id, .string who, .int .i64 ti, .int .i64 da, .slice A n c]).cell 4
              have f4 := (hR7.nth 1 rfl : Blk w8 g _ #[.string id, .string who, .int .i64 ti, .int .i64 da, .slice A n c]).frozen 4
              clear hRo hR5
              refine wpAnyH_take (i := 11) (v := .pointer (some ⟨g, 4, none⟩)) rfl (by kernel_rfl) (by kernel_rfl) (by kernel_rfl) (fun _ _ _ h => h) (Or.inl ⟨by rfl, fun V hV => ?_⟩) hHeld ?_
              · first | (go_simp; done) | (go_simp; rfl) | rfl
              simp only [Act.put]
              refine wpAnyH_ready (rs := [12]) (by kernel_rfl) (by simp) ?_
              refine AllReadyH.cons rfl (fun KK hK => ?_) AllReadyH.nil
              go_simp
              refine hK.out _ _ trivial (fun hHeld => ?_)
              try simp only [Act.put]
              have hR8 := (hR7.front 1 rfl rfl).set_ 4 (.slice A8 (n + 1) c8)
              refine wpAnyH_done (by kernel_rfl) ?_ _
              have hF := hR8.front 1 rfl rfl
              rw [show fs.flatMap prC ++ [Value.string s3, Value.string s4] = (fs ++ [((s3, s4) : Pr)]).flatMap prC from (fl_snoc fs (s3, s4)).symm] at hF
              go_wp2_with fail
              go_meet
              exact ⟨id, who, ti, da, n + 1, r + 1 + 1 + 1 + 1, A8, c8, fs ++ [(s3, s4)], Lib.hid ⟨by simp [hnf], hidz, hwz, pr_snoc hfz hs3 hs4, by omega, htz, hdz⟩, Lib.hid (HT.out.symm.trans (srX_2 HSR.out HFV.out HQ.out h0 h1 HS3.out HS4.out)), by omega, hF⟩
      case rest =>
        obtain ⟨id, who, ti, da, n, r, A, c, fs, HQ, HX, hrp, hS⟩ := hcut
        have hkg : Blk wc g _ #[.string id, .string who, .int .i64 ti, .int .i64 da, .slice A n c] := hS.nth 1 rfl
        have y0 := hkg.cell 0
        have y1 := hkg.cell 1
        have y2 := hkg.cell 2
        have y3 := hkg.cell 3
        have y4 := hkg.cell 4
        have hkz : Blk wc w.heap.size _ #[.string ⟨#[]⟩, .string ⟨#[]⟩, .int .i64 0, .int .i64 0, .slice none 0 0] := hS.nth 2 rfl
        have z0 := hkz.cell 0
        have z1 := hkz.cell 1
        have z2 := hkz.cell 2
        have z3 := hkz.cell 3
        have z4 := hkz.cell 4
        have f0 := hkz.frozen 0
        have f1 := hkz.frozen 1
        have f2 := hkz.frozen 2
        have f3 := hkz.frozen 3
        have f4 := hkz.frozen 4
        clear hkg hkz
        have hS9 := (((((hS.front 2 rfl rfl).set_ 0 (.string id)).set_ 1 (.string who)).set_ 2 (.int .i64 ti)).set_ 3 (.int .i64 da)).set_ 4 (.slice A n c)
        go_wp2_with fail
        obtain ⟨hl, q1, q2, q3, q4, q5, q6⟩ := HQ.out
        subst hl
        exact bodyPost_ret (srn_res hS9.head rfl) rfl ⟨⟨id, who, ti, da, A, c, fs⟩, r, rfl, ⟨q1, q2, q3, q4, q5, q6⟩, HT.out.trans HX.out, hrp, hS9.tail.drop 1 rfl rfl⟩
end Go.Proofs.YthbcogekfdllmaaGreatDoor

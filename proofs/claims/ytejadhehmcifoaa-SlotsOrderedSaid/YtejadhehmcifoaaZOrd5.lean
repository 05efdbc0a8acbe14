/-
  The reference's OrderOf by a contract, first part: an order that is whole.
-/
import Derived.Test.YtejadhehmcifoaaZOrd3
import Derived.Test.YtejadhehmcifoaaZOrdPure
import Derived.Test.YtejadhehmcifoaaZSlot9b
import Derived.Test.YtejadhehmcifoaaZSlot1
import Derived.Test.YtejadhehmcifoaaZDrp2
import Derived.Test.YtejadhehmcifoaaZSortMem
namespace Go.Proofs.Ytejadhehmcifoaa
open Go Go.RowKit
attribute [local go_sem ↓] Go.wp_at_zero Go.wp_at_succ

/-- the closure that calls itself -/
abbrev cloV (gl gg gr gn gb : Nat) : Value := .func (.func 66) #[] #[.pointer (some ⟨gl, 0, none⟩), .pointer (some ⟨gg, 0, none⟩), .pointer (some ⟨gr, 0, none⟩), .pointer (some ⟨gn, 0, none⟩), .pointer (some ⟨gb, 0, none⟩)]
/-- strings in a row of one's own -/
abbrev rSt (base : Nat) (A : Option Addr) (n c : Nat) (ks : List ByteArray) : Rsc := rOwn base 9 1 (.slice A n c) n (strsV ks)
/-- the best order so far, as the reference's closure keeps it -/
def StQ (w0 : World) (gl gg gr gn gb : Nat) (Ax : Option Addr) (n cx : Nat) (rest : Int) (s : List ByteArray × Int) (W : World) (l : List Rsc) : Prop :=
  ∃ A c, Sq w0 W (rBlk gn 3 #[.int .i64 s.2] :: rBlk gb 26 #[.slice A s.1.length c] :: rSt w0.heap.size A s.1.length c s.1 :: rBlk gl 42 #[.slice Ax n cx] :: rBlk gg 90 #[cloV gl gg gr gn gb] :: rBlk gr 3 #[.int .i64 rest] :: l)
theorem StQ.callB {w0 W W' : World} {gl gg gr gn gb n cx : Nat} {Ax : Option Addr} {rest : Int} {s : List ByteArray × Int} {l : List Rsc} (h : StQ w0 gl gg gr gn gb Ax n cx rest s W l) (k : Below W.heap.size W W') : StQ w0 gl gg gr gn gb Ax n cx rest s W' l := by
  obtain ⟨A, c, h⟩ := h
  exact ⟨A, c, h.callB k⟩
def OrdQ (m : Nat) : Prop := ∀ (b : Nat) (w0 W : World) (gl gg gr gn gb : Nat) (Ax : Option Addr) (n cx : Nat) (xs : List Slt) (rest : Int) (s : List ByteArray × Int) (l : List Rsc) (Ah : Option Addr) (nh ch : Nat) (hv rs : List Slt), b < w0.heap.size → 0 ≤ rest ∧ rest ≤ 86400000 → -1 ≤ s.2 ∧ s.2 ≤ 1000000 →
  Slts w0 b Ax n cx xs → KeyOne xs → rs.length = m → (hv ++ rs).Perm xs → n ≤ 1000 → StQ w0 gl gg gr gn gb Ax n cx rest s W (rSl w0.heap.size Ah nh ch hv :: l) →
    Calls Try.prog 66 #[.slice Ah nh ch, .pointer (some ⟨gl, 0, none⟩), .pointer (some ⟨gg, 0, none⟩), .pointer (some ⟨gr, 0, none⟩), .pointer (some ⟨gn, 0, none⟩), .pointer (some ⟨gb, 0, none⟩)] W
      fun e W' => e = .returned (.tuple #[]) ∧ StQ w0 gl gg gr gn gb Ax n cx rest ((permsQ xs m hv).foldl (stepQ rest) s) W' (rSl w0.heap.size Ah nh ch hv :: l)

set_option maxRecDepth 100000 in
set_option maxHeartbeats 4000000 in
theorem ordQ_zero : OrdQ 0 := by
  intro b w0 W gl gg gr gn gb Ax n cx xs rest s l Ah nh ch hv rs hb hrest hs hr hk1 hrs hp hn hS
  obtain ⟨j0, hj, hy0, hy1, hy2⟩ := info_parts info_str3
  have hrs0 : rs = [] := List.eq_nil_of_length_eq_zero hrs
  subst hrs0
  rw [List.append_nil] at hp
  obtain ⟨A, c, hS⟩ := hS
  obtain ⟨bs, f⟩ := s
  simp only at hS hs
  have hl := (hr.rd.cells sltC_len (by omega)).1
  have hhl : hv.length = n := by rw [hp.length_eq]; exact hl
  have hnh : nh = n := by
    have hown : W.ownsRow w0.heap.size 59 5 (.slice Ah nh ch) nh (hv.flatMap sltC) := hS.nth 6 rfl
    have := hown.1
    rw [flat_len sltC 5 sltC_len] at this
    omega
  subst hnh
  have HR := Lib.hid hr
  have HL := Lib.hid hl
  have HHL := Lib.hid hhl
  have HFD : Hid (∀ x ∈ xs, ¬ findL hv x.key < 0) := Lib.hid (fun x hx h => by
    rw [findL_no] at h
    exact h x (hp.mem_iff.2 hx) rfl)
  have HOK : Hid (OkS w0 b hv) := Lib.hid (fun x hx => hr.ok x (hp.mem_iff.1 hx))
  obtain ⟨R, hR⟩ : ∃ R, (rBlk gl 42 #[.slice Ax nh cx] :: rBlk gg 90 #[cloV gl gg gr gn gb] :: rBlk gr 3 #[.int .i64 rest] :: rSl w0.heap.size Ah nh ch hv :: l) = R := ⟨_, rfl⟩
  rw [hR] at hS
  have HRR := Lib.hid hR
  have HC0 : Hid (∀ W r0 r1 r2, Sq w0 W (r0 :: r1 :: r2 :: R) → Rd W b 5 (.slice Ah nh ch) nh (hv.flatMap sltC) ∧ Rd W b 5 (.slice Ax nh cx) nh (xs.flatMap sltC) ∧ W.cell? ⟨gl, 0, none⟩ = some (.slice Ax nh cx) ∧ W.cell? ⟨gr, 0, none⟩ = some (.int .i64 rest)) := Lib.hid (fun W r0 r1 r2 h => by
    subst hR
    have h1 : Blk W gl 42 #[.slice Ax nh cx] := h.nth 3 rfl
    have h2 : Blk W gr 3 #[.int .i64 rest] := h.nth 5 rfl
    exact ⟨Rd.own (h.nth 6 rfl) hb, HR.out.rd.below h.below, h1.cell 0, h2.cell 0⟩)
  obtain ⟨_, _, kl, _⟩ := HC0.out _ _ _ _ hS
  obtain ⟨f0, f1⟩ := hs
  have hnc : nh ≤ cx ∧ cx ≤ maxLen := by
    obtain ⟨_, h1, h2, _⟩ := hr.rd.cells sltC_len (by omega)
    exact ⟨h1, h2⟩
  have hnch : nh ≤ ch ∧ ch ≤ maxLen := by
    subst hR
    exact own_cap (show W.ownsRow w0.heap.size 59 5 (.slice Ah nh ch) nh (hv.flatMap sltC) from hS.nth 6 rfl)
  obtain ⟨hnc, hcm⟩ := hnc
  obtain ⟨hnc2, hcm2⟩ := hnch
  unfold maxLen at hcm hcm2
  clear hr hl hhl hp hk1 hrs hR
  go_enter Try.func66, Try.ntmps66
  go_wp2_with fail
  clear kl
  go_loopw [15] (fun i wr => ∃ k : Nat, k ≤ nh ∧ i = .int .i64 k ∧ Sq w0 wr (rBlk gn 3 #[.int .i64 f] :: rBlk gb 26 #[.slice A bs.length c] :: rSt w0.heap.size A bs.length c bs :: R)) (fun i _ => nh - (intOf i).toNat)
  case atStart => exact ⟨0, Nat.zero_le _, rfl, hS⟩
  case round =>
    clear hS
    obtain ⟨k, hk, rfl, hS⟩ := hrel
    obtain ⟨hrh, hrx, kl, kr⟩ := HC0.out _ _ _ _ hS
    by_cases hlt : k < nh
    · have hkr : k < xs.length := by rw [HL.out]; exact hlt
      obtain ⟨_, _, _, hcs0⟩ := hrx.cells sltC_len (by omega)
      obtain ⟨g, o, hA, _, hcs⟩ := hcs0 (by omega)
      clear hcs0
      subst hA
      have x0 := hcs k hkr 0 (by omega)
      have x1 := hcs k hkr 1 (by omega)
      have x2 := hcs k hkr 2 (by omega)
      have x3 := hcs k hkr 3 (by omega)
      have x4 := hcs k hkr 4 (by omega)
      have hfx := HFD.out _ (List.getElem_mem hkr)
      obtain ⟨x, hx⟩ : ∃ x, xs[k] = x := ⟨_, rfl⟩
      rw [hx] at x0 x1 x2 x3 x4 hfx
      replace x0 : wr.cell? ⟨g, o + k * 5, none⟩ = some (.string x.key) := x0
      replace x1 : wr.cell? ⟨g, o + k * 5 + 1, none⟩ = some (.string x.who) := x1
      replace x2 : wr.cell? ⟨g, o + k * 5 + 2, none⟩ = some (.slice x.ha x.hosts.length x.hc) := x2
      replace x3 : wr.cell? ⟨g, o + k * 5 + 3, none⟩ = some (.int .i64 x.setup) := x3
      replace x4 : wr.cell? ⟨g, o + k * 5 + 4, none⟩ = some (.int .i64 x.long) := x4
      have hSx := hS.alloc (.cells (sltL x) 59)
      have HFN := Lib.hid (findLQ_calls b Ah nh ch hv x.key _ (HC0.out _ _ _ _ hSx).1)
      obtain ⟨F, hF⟩ : ∃ F, findL hv x.key = F := ⟨_, rfl⟩
      rw [hF] at hfx HFN
      have HSX := Lib.hid hSx
      have hk0 : (0 : Int) ≤ (k : Int) := by omega
      have hk1 : (k : Int) < (nh : Int) := by omega
      clear hcs hx hF hSx hrh hrx
      go_wp2_with fail
      refine HFN.out.mono ?_
      rintro e w2 ⟨rfl, hb2⟩
      have hS2 := HSX.out.callB hb2
      go_wp2_with fail
      go_roundw
      case rel => exact ⟨k + 1, by omega, by go_num, hS2⟩
      case measure => simp [intOf]; omega
    · obtain rfl : k = nh := by omega
      have hS1 := (hS.nil w0.heap.size 9 1)
      clear hrh hrx
      go_wp2_with fail
      clear kl kr
      go_loopw [9, 39] (fun v i w2 => ∃ q : Nat, q ≤ k ∧ i = .int .i64 q ∧ Sq w0 w2 (rOwn w0.heap.size 9 1 v q (strsV (keysL (hv.take q))) :: rBlk gn 3 #[.int .i64 f] :: rBlk gb 26 #[.slice A bs.length c] :: rSt w0.heap.size A bs.length c bs :: R)) (fun _ i _ => k - (intOf i).toNat)
      case atStart => exact ⟨0, Nat.zero_le _, rfl, hS1⟩
      case round =>
        clear hS1 hS
        obtain ⟨q, hq, rfl, hS⟩ := hrel
        obtain ⟨hrh, hrx, kl, kr⟩ := HC0.out _ _ _ _ hS.tail
        by_cases hlt : q < k
        · have hkr : q < hv.length := by rw [HHL.out]; exact hlt
          obtain ⟨_, _, _, hcs0⟩ := hrh.cells sltC_len (by omega)
          obtain ⟨g, o, hA, _, hcs⟩ := hcs0 (by omega)
          clear hcs0
          subst hA
          have x0 := hcs q hkr 0 (by omega)
          have x1 := hcs q hkr 1 (by omega)
          have x2 := hcs q hkr 2 (by omega)
          have x3 := hcs q hkr 3 (by omega)
          have x4 := hcs q hkr 4 (by omega)
          have hst : strsV (keysL (hv.take (q + 1))) = strsV (keysL (hv.take q)) ++ [.string hv[q].key] := by
            rw [List.take_succ_eq_append_getElem hkr, keysL_app]
            simp [strsV, keysL]
          obtain ⟨x, hx⟩ : ∃ x, hv[q] = x := ⟨_, rfl⟩
          rw [hx] at x0 x1 x2 x3 x4 hst
          replace x0 : wr.cell? ⟨g, o + q * 5, none⟩ = some (.string x.key) := x0
          replace x1 : wr.cell? ⟨g, o + q * 5 + 1, none⟩ = some (.string x.who) := x1
          replace x2 : wr.cell? ⟨g, o + q * 5 + 2, none⟩ = some (.slice x.ha x.hosts.length x.hc) := x2
          replace x3 : wr.cell? ⟨g, o + q * 5 + 3, none⟩ = some (.int .i64 x.setup) := x3
          replace x4 : wr.cell? ⟨g, o + q * 5 + 4, none⟩ = some (.int .i64 x.long) := x4
          have HST := Lib.hid hst
          have hk0 : (0 : Int) ≤ (q : Int) := by omega
          have hk1 : (q : Int) < (k : Int) := by omega
          have hsz := hS.size
          have hSx := (hS.alloc (.cells (sltL x) 59)).alloc (.cells #[.string x.key] 9)
          have hown : ((wr.alloc (.cells (sltL x) 59)).alloc (.cells #[.string x.key] 9)).ownsRow w0.heap.size 9 1 u9 q (strsV (keysL (hv.take q))) := hSx.head
          clear hcs hx hst hrh hrx kl kr hS
          go_wp2_with (first
            | (at_builtin; refine wpList_append_own_at _ rfl (.tmp 43) (.tmp 46) 26 rfl w0.heap.size 9 j0 (.string ⟨#[]⟩) 1 16 Try.underlying26 hj hy0 hy1 hy2 rfl (by decide) u9 _ _ rfl hown ⟨wr.heap.size + 1, 0, none⟩ 1 1 [.string x.key] rfl rfl (World.news_of_block (heap_new2 _ _ _)) (one1 rfl) (by unfold maxLen; omega) (by omega) (by simp; omega) ?_; intro v' w8 hown' hgrow _ hblk; have hS8 := hSx.append hown' hgrow hblk; clear hown' hgrow hblk))
          rw [← HST.out] at hS8
          go_roundw
          case rel => exact ⟨q + 1, by omega, by go_num, hS8⟩
          case measure => simp [intOf]; omega
        · obtain rfl : q = k := by omega
          rw [List.take_of_length_le (by rw [HHL.out]; exact Nat.le_refl _)] at hS
          have hkl : (keysL hv).length = q := by rw [keysL_len]; exact HHL.out
          have HKL := Lib.hid hkl
          have hown : wr.ownsRow w0.heap.size 9 1 u9 q (strsV (keysL hv)) := hS.head
          obtain ⟨Ak, ck, rfl⟩ := own_form hown
          have hbw : b < wr.heap.size := by have := hS.size; omega
          have HCL := Lib.hid (clashesOf_calls b Ah q ch hv rest wr (HOK.out.slts hS hrh) hn hbw (by omega))
          have HCB := Lib.hid (clF_len_bd rest hv (by rw [HHL.out]; exact hn))
          obtain ⟨N, hN⟩ : ∃ N : Nat, (clF hv rest).length = N := ⟨_, rfl⟩
          have HN : Hid (clN_ rest hv = (N : Int)) := Lib.hid (by unfold clN_; rw [hN])
          have HNL := Lib.hid hN
          have hNb : (N : Int) ≤ 1000000 := by rw [← HN.out]; exact HCB.out
          have HS := Lib.hid hS
          clear hN HCB hkl hown hS hrh hrx kl
          go_wp2_with fail
          refine HCL.out.mono ?_
          rintro e w3 ⟨v3, rfl, hown3, hb3⟩
          rw [HNL.out] at hown3
          obtain ⟨vA, vc, rfl⟩ := own_form hown3
          have hS3 := HS.out.callB hb3
          clear hown3 hb3 kr
          go_upto_region 14 with (fail)
          obtain ⟨C, hC⟩ : ∃ C, cmpLS (keysL hv) bs = C := ⟨_, rfl⟩
          have HCC := Lib.hid hC
          have HCM : Hid (∀ W, Sq w0 W (rSt w0.heap.size Ak q ck (keysL hv) :: rBlk gn 3 #[.int .i64 f] :: rBlk gb 26 #[.slice A bs.length c] :: rSt w0.heap.size A bs.length c bs :: R) → Calls Try.prog 68 #[.slice Ak q ck, .slice A bs.length c] W fun e w' => e = .returned (.int .i64 C) ∧ W = w') := Lib.hid (fun W h => by
            have := compareL_calls b Ak A q ck bs.length c (keysL hv) bs W (Rd.own (h.nth 0 rfl) hb) (Rd.own (h.nth 3 rfl) hb) (Lib.hid cmpStr_calls)
            rw [hC] at this
            exact this)
          clear hC
          obtain ⟨B, hB⟩ : ∃ B : Bool, B = decide (f < 0 ∨ (N : Int) < f ∨ ((N : Int) = f ∧ C < 0)) := ⟨_, rfl⟩
          have HB := Lib.hid hB
          clear hB
          go_cut [70] (fun s70 WW => ∃ W2, W2 = WW ∧ s70 = .bool B ∧ Sq w0 W2 (rSt w0.heap.size Ak q ck (keysL hv) :: rBlk gn 3 #[.int .i64 f] :: rBlk gb 26 #[.slice A bs.length c] :: rSt w0.heap.size A bs.length c bs :: R))
          case first =>
            have bn : Blk w3 gn 3 #[.int .i64 f] := hS3.nth 1 rfl
            have bb : Blk w3 gb 26 #[.slice A bs.length c] := hS3.nth 2 rfl
            have kn : w3.cell? ⟨gn, 0, none⟩ = some (.int .i64 f) := bn.cell 0
            have kb : w3.cell? ⟨gb, 0, none⟩ = some (.slice A bs.length c) := bb.cell 0
            have HK := Lib.hid (HCM.out w3 hS3)
            have HS3 := Lib.hid hS3
            clear bn bb hS3
            by_cases h1 : f < 0
            · obtain rfl : B = true := by rw [HB.out]; exact decide_eq_true (.inl h1)
              go_wp2_with fail
              go_meet
              exact ⟨_, rfl, rfl, HS3.out⟩
            · by_cases h2 : (N : Int) < f
              · obtain rfl : B = true := by rw [HB.out]; exact decide_eq_true (.inr (.inl h2))
                go_wp2_with fail
                go_meet
                exact ⟨_, rfl, rfl, HS3.out⟩
              · by_cases h3 : (N : Int) = f
                · by_cases h4 : C < 0
                  · obtain rfl : B = true := by rw [HB.out]; exact decide_eq_true (.inr (.inr ⟨h3, h4⟩))
                    have h3' : ((N : Int) == f) = true := by simpa using h3
                    clear h3
                    go_wp2_with fail
                    refine HK.out.mono ?_
                    rintro e w4 ⟨rfl, rfl⟩
                    go_wp2_with fail
                    go_meet
                    exact ⟨_, rfl, rfl, HS3.out⟩
                  · obtain rfl : B = false := by rw [HB.out]; exact decide_eq_false (by rintro (h | h | h); exact h1 h; exact h2 h; exact h4 h.2)
                    have h3' : ((N : Int) == f) = true := by simpa using h3
                    clear h3
                    go_wp2_with fail
                    refine HK.out.mono ?_
                    rintro e w4 ⟨rfl, rfl⟩
                    go_wp2_with fail
                    go_meet
                    exact ⟨_, rfl, by rw [decide_eq_false (show ¬ C < 0 by omega)], HS3.out⟩
                · obtain rfl : B = false := by rw [HB.out]; exact decide_eq_false (by rintro (h | h | h); exact h1 h; exact h2 h; exact h3 h.1)
                  have h3' : ((N : Int) == f) = false := by simpa using h3
                  go_wp2_with fail
                  go_meet
                  exact ⟨_, rfl, rfl, HS3.out⟩
          case rest =>
            obtain ⟨W2, hW2, rfl, hS4⟩ := hcut
            subst hW2
            cases B
            · have HST : Hid ((permsQ xs 0 hv).foldl (stepQ rest) (bs, f) = (bs, f)) := Lib.hid (by
                show stepQ rest (bs, f) hv = _
                unfold stepQ
                rw [if_neg]
                rw [HN.out, HCC.out]
                exact of_decide_eq_false HB.out.symm)
              have hF : StQ w0 gl gg gr gn gb Ax q cx rest (bs, f) W2 (rSl w0.heap.size Ah q ch hv :: l) := ⟨A, c, by
                have := hS4.tail
                rw [← HRR.out] at this
                exact this⟩
              clear hS4
              go_wp2_with fail
              go_end0
              rw [HST.out]
              exact ⟨rfl, hF⟩
            · have HST : Hid ((permsQ xs 0 hv).foldl (stepQ rest) (bs, f) = (keysL hv, (N : Int))) := Lib.hid (by
                show stepQ rest (bs, f) hv = _
                unfold stepQ
                rw [if_pos, HN.out]
                rw [HN.out, HCC.out]
                exact of_decide_eq_true HB.out.symm)
              have bn : Blk W2 gn 3 #[.int .i64 f] := hS4.nth 1 rfl
              have bb : Blk W2 gb 26 #[.slice A bs.length c] := hS4.nth 2 rfl
              have kn := bn.cell 0
              have kb := bb.cell 0
              have fn := bn.frozen 0
              have fb := bb.frozen 0
              have hne : gn ≠ gb := Blk.ne_ bn bb (by decide)
              have hS5 := (hS4.front 2 rfl rfl).set_ 0 (.slice Ak q ck)
              have hS6 := ((hS5.front 2 rfl rfl).set_ 0 (.int .i64 N)).drop 3 rfl rfl
              have HF : Hid (StQ w0 gl gg gr gn gb Ax q cx rest (keysL hv, (N : Int)) ((W2.setCell ⟨gb, 0, none⟩ (.slice Ak q ck)).setCell ⟨gn, 0, none⟩ (.int .i64 N)) (rSl w0.heap.size Ah q ch hv :: l)) := Lib.hid ⟨Ak, ck, by
                simp only
                rw [HKL.out]
                rw [← HRR.out] at hS6
                exact hS6⟩
              clear hS4 hS5 hS6 bn bb
              go_wp2_with fail
              go_end0
              rw [HST.out]
              exact ⟨rfl, HF.out⟩
theorem ordQ_x : True := trivial
end Go.Proofs.Ytejadhehmcifoaa

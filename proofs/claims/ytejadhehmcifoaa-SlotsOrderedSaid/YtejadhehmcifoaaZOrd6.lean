/-
  The reference's OrderOf by a contract: the recursion, and the whole.
-/
import Derived.Test.YtejadhehmcifoaaZOrd5
namespace Go.Proofs.Ytejadhehmcifoaa
open Go Go.RowKit
attribute [local go_sem ↓] Go.wp_at_zero Go.wp_at_succ

abbrev SlQ (w0 : World) (p : Option Addr × Nat × List Slt) : Rsc := rSl w0.heap.size p.1 p.2.2.length p.2.1 p.2.2
/-- a state within the region that makes the argument of the call: the literal, the clone -/
def S6 (w0 : World) (x : Slt) (L : List Rsc) (lit : Option Nat) (cl : Option (Option Addr × Nat × List Slt)) (V : World) : Prop :=
  Sq w0 V (opR (fun g => rBlk g 59 (sltL x)) lit ++ (opR (SlQ w0) cl ++ L))
section
variable {w0 V V' : World} {x : Slt} {L : List Rsc} {lit : Option Nat} {cl : Option (Option Addr × Nat × List Slt)}
theorem S6.mem {r : Rsc} (h : S6 w0 x L lit cl V) (hr : r ∈ L) : r.P V := h.hp.hold r (List.mem_append_right _ (List.mem_append_right _ hr))
theorem S6.lay (h : S6 w0 x L none cl V) : S6 w0 x L (some V.heap.size) cl (V.alloc (.cells (sltL x) 59)) := by
  unfold S6 at *
  exact Sq.add h _ _
theorem S6.drew (h : S6 w0 x L lit cl V) : S6 w0 x L lit cl V.drew := Sq.drew h
theorem S6.clone (h : S6 w0 x L lit none V) {A : Option Addr} {c : Nat} {ys : List Slt} (k : Below V.heap.size V V') (ho : V'.ownsRow V.heap.size 59 5 (.slice A ys.length c) ys.length (ys.flatMap sltC)) : S6 w0 x L lit (some (A, c, ys)) V' := by
  unfold S6 at *
  refine sq_perm (Sq.ownB h k ho) ?_
  show (_ :: (opR _ lit ++ ([] ++ L))).Perm (opR _ lit ++ (SlQ w0 (A, c, ys) :: L))
  exact List.perm_middle.symm
theorem S6.blk {gl : Nat} (h : S6 w0 x L (some gl) cl V) : Blk V gl 59 (sltL x) := Sq.head (l := opR (SlQ w0) cl ++ L) (r := rBlk gl 59 (sltL x)) h
end
/-- the append of one slot to the clone, in a region that draws -/
theorem step_app_q {w0 V : World} {x : Slt} {L : List Rsc} {A : Option Addr} {n c : Nat} {ys : List Slt} {gl : Nat} {ops : Array Oper} {o : Oper} {a : Act} {K : Act → World → Prop} {Q : Exit → Act → World → Prop} {E : Prop} (hgd : o.guard = none) (s y : Operand) (ho : o.op = .call { callee := .builtin .append, args := #[s, y], argTypes := #[42, 42] })
    (hT : S6 w0 x L (some gl) (some (A, c, ys)) V) (b : Nat) (hb : b < w0.heap.size) (hl : ys.length = n) (hn : n ≤ 1000) (hs : a.eval s = .slice A n c) (hx : a.eval y = .slice (some ⟨gl, 0, none⟩) 1 1)
    (h : ∀ A' c' V', S6 w0 x L (some gl) (some (A', c', ys ++ [x])) V' → K (a.put o.dst (.slice A' (n + 1) c')) V') :
    if Region.wanted o (yielded ops a.tmps) = true then Oper.wp Try.prog o a V K Q else E := by
  obtain ⟨i0, hi, hz0, hz1, hz2⟩ := info_parts info_slt
  have hw : Region.wanted o (yielded ops a.tmps) = true := by simp [Region.wanted, hgd]
  rw [if_pos hw]
  subst hl
  have hb' := hT.blk
  have hS : Sq w0 V (rBlk gl 59 (sltL x) :: rSl w0.heap.size A ys.length c ys :: L) := hT
  have hS1 := hS.front 1 rfl rfl
  have hown : V.ownsRow w0.heap.size 59 5 (.slice A ys.length c) ys.length (ys.flatMap sltC) := hS1.head
  have hge : w0.heap.size ≤ gl := hS.ge 0 rfl
  have hr : Rd V b 5 (.slice (some ⟨gl, 0, none⟩) 1 1) 1 (sltC x) := blkRd 5 1 hb' (by omega) (by decide) rfl
  refine wp_app_rd V s y 42 ho w0.heap.size 59 i0 (.agg #[.string ⟨#[]⟩, .string ⟨#[]⟩, .slice none 0 0, .int .i64 0, .int .i64 0]) 5 72 Try.underlying42 hi hz0 hz1 hz2 rfl (by decide) _ ys.length _ hs hown b _ 1 1 (sltC x) hx hr (fun u hu => sltC_one [x] u (by simpa using hu)) (by unfold maxLen; omega) (by omega) hS.size ?_
  intro v' w' h1 h2 h3
  obtain ⟨A', c', rfl⟩ := own_form h1
  refine h A' c' w' ?_
  have h4 := (hS1.append h1 h2 h3).front 1 rfl rfl
  have he : ys.flatMap sltC ++ sltC x = (ys ++ [x]).flatMap sltC := by simp
  rw [he] at h4
  show Sq w0 w' (rBlk gl 59 (sltL x) :: rSl w0.heap.size A' (ys ++ [x]).length c' (ys ++ [x]) :: L)
  rw [List.length_append]
  exact h4
theorem foldQ_bd (rest : Int) : ∀ (P : List (List Slt)) (s : List ByteArray × Int), (∀ p ∈ P, p.length ≤ 1000) → -1 ≤ s.2 ∧ s.2 ≤ 1000000 → -1 ≤ (P.foldl (stepQ rest) s).2 ∧ (P.foldl (stepQ rest) s).2 ≤ 1000000
  | [], s, _, h => h
  | p :: P, s, hP, h => by
    rw [List.foldl_cons]
    refine foldQ_bd rest P _ (fun q hq => hP q (List.mem_cons_of_mem _ hq)) ?_
    have h1 := clN_pos rest p
    have h2 := clF_len_bd rest p (hP p (List.mem_cons_self ..))
    unfold stepQ
    split
    · exact ⟨by simp only; omega, h2⟩
    · exact h
theorem permsQ_len (xs : List Slt) : ∀ (m : Nat) (hv : List Slt), ∀ p ∈ permsQ xs m hv, p.length = hv.length + m
  | 0, hv, p, hp => by
    rw [permsQ, List.mem_singleton] at hp
    rw [hp]; rfl
  | m + 1, hv, p, hp => by
    rw [permsQ] at hp
    obtain ⟨x, _, hp⟩ := List.mem_flatMap.1 hp
    split at hp
    · have := permsQ_len xs m _ p hp
      rw [this, List.length_append]
      simp
      omega
    · cases hp
theorem permsJ_len (xs : List Slt) (m : Nat) (hv : List Slt) (k : Nat) : ∀ p ∈ permsJ xs m hv k, p.length = hv.length + m + 1 := by
  intro p hp
  unfold permsJ at hp
  obtain ⟨x, _, hp⟩ := List.mem_flatMap.1 hp
  split at hp
  · have := permsQ_len xs m _ p hp
    rw [this, List.length_append]
    simp
    omega
  · cases hp

set_option maxRecDepth 100000 in
set_option maxHeartbeats 4000000 in
theorem ordQ_succ (m : Nat) (IH : Hid (OrdQ m)) : OrdQ (m + 1) := by
  intro b w0 W gl gg gr gn gb Ax n cx xs rest s l Ah nh ch hv rs hb hrest hs hr hk1 hrs hp hn hS
  have hl := (hr.rd.cells sltC_len (by omega)).1
  have hnh : hv.length = nh := by
    obtain ⟨A, c, hS'⟩ := hS
    have hown : W.ownsRow w0.heap.size 59 5 (.slice Ah nh ch) nh (hv.flatMap sltC) := hS'.nth 6 rfl
    have := hown.1
    rw [flat_len sltC 5 sltC_len] at this
    omega
  have hlt0 : nh + (m + 1) = n := by have := hp.length_eq; rw [List.length_append, hnh, hrs, hl] at this; exact this
  have HR := Lib.hid hr
  have HL := Lib.hid hl
  have HHL := Lib.hid hnh
  have HP := Lib.hid hp
  have HRS := Lib.hid hrs
  have HK1 := Lib.hid hk1
  have HRB := Lib.hid hrest
  have HSB := Lib.hid hs
  obtain ⟨RT, hTS⟩ : ∃ r : Rsc, rSl w0.heap.size Ah nh ch hv = r := ⟨_, rfl⟩
  have HTS := Lib.hid hTS
  rw [hTS] at hS
  have hS0 : StQ w0 gl gg gr gn gb Ax n cx rest ((permsJ xs m hv 0).foldl (stepQ rest) s) W (RT :: l) := hS
  have kl : W.cell? ⟨gl, 0, none⟩ = some (.slice Ax n cx) := by
    obtain ⟨A, c, hS'⟩ := hS
    exact (show Blk W gl 42 #[.slice Ax n cx] from hS'.nth 3 rfl).cell 0
  have hnc : n ≤ cx ∧ cx ≤ maxLen := by
    obtain ⟨_, h1, h2, _⟩ := hr.rd.cells sltC_len (by omega)
    exact ⟨h1, h2⟩
  have hnch : nh ≤ ch ∧ ch ≤ maxLen := by
    obtain ⟨A, c, hS'⟩ := hS
    subst hTS
    exact own_cap (show W.ownsRow w0.heap.size 59 5 (.slice Ah nh ch) nh (hv.flatMap sltC) from hS'.nth 6 rfl)
  obtain ⟨hnc, hcm⟩ := hnc
  obtain ⟨hnc2, hcm2⟩ := hnch
  unfold maxLen at hcm hcm2
  clear hr hl hnh hp hrs hk1 hrest hs hS hTS
  go_enter Try.func66, Try.ntmps66
  go_wp2_with fail
  clear kl
  go_loopw [15] (fun i wr => ∃ k : Nat, k ≤ n ∧ i = .int .i64 k ∧ StQ w0 gl gg gr gn gb Ax n cx rest ((permsJ xs m hv k).foldl (stepQ rest) s) wr (RT :: l)) (fun i _ => n - (intOf i).toNat)
  case atStart => exact ⟨0, Nat.zero_le _, rfl, hS0⟩
  case round =>
    clear hS0
    obtain ⟨k, hk, rfl, hS⟩ := hrel
    obtain ⟨S, hSS⟩ : ∃ S, (permsJ xs m hv k).foldl (stepQ rest) s = S := ⟨_, rfl⟩
    by_cases hlt : k < n
    · have hkr : k < xs.length := by rw [HL.out]; exact hlt
      have hSB : -1 ≤ S.2 ∧ S.2 ≤ 1000000 := by
        rw [← hSS]
        exact foldQ_bd rest _ s (fun p hp => by rw [permsJ_len xs m hv k p hp, HHL.out]; omega) HSB.out
      have hST : (permsJ xs m hv (k + 1)).foldl (stepQ rest) s = (if findL hv xs[k].key < 0 then permsQ xs m (hv ++ [xs[k]]) else []).foldl (stepQ rest) S := by rw [permsJ_step xs m hv k hkr, List.foldl_append, hSS]
      rw [hSS] at hS
      obtain ⟨A, c, hS⟩ := hS
      have hrx : Rd wr b 5 (.slice Ax n cx) n (xs.flatMap sltC) := HR.out.rd.below hS.below
      obtain ⟨_, _, _, hcs0⟩ := hrx.cells sltC_len (by omega)
      obtain ⟨g, o, hA, _, hcs⟩ := hcs0 (by omega)
      clear hcs0
      have x0 := hcs k hkr 0 (by omega)
      have x1 := hcs k hkr 1 (by omega)
      have x2 := hcs k hkr 2 (by omega)
      have x3 := hcs k hkr 3 (by omega)
      have x4 := hcs k hkr 4 (by omega)
      have hxm : xs[k] ∈ xs := List.getElem_mem hkr
      obtain ⟨x, hx⟩ : ∃ x, xs[k] = x := ⟨_, rfl⟩
      rw [hx] at x0 x1 x2 x3 x4 hxm hST
      replace x0 : wr.cell? ⟨g, o + k * 5, none⟩ = some (.string x.key) := x0
      replace x1 : wr.cell? ⟨g, o + k * 5 + 1, none⟩ = some (.string x.who) := x1
      replace x2 : wr.cell? ⟨g, o + k * 5 + 2, none⟩ = some (.slice x.ha x.hosts.length x.hc) := x2
      replace x3 : wr.cell? ⟨g, o + k * 5 + 3, none⟩ = some (.int .i64 x.setup) := x3
      replace x4 : wr.cell? ⟨g, o + k * 5 + 4, none⟩ = some (.int .i64 x.long) := x4
      obtain ⟨gx, hgx⟩ : ∃ g, wr.heap.size = g := ⟨_, rfl⟩
      have hS2 := hS.add (sltL x) 59
      rw [hgx] at hS2
      have hrh : Rd (wr.alloc (.cells (sltL x) 59)) b 5 (.slice Ah nh ch) nh (hv.flatMap sltC) := by
        have h1 : RT.P (wr.alloc (.cells (sltL x) 59)) := hS2.nth 7 rfl
        rw [← HTS.out] at h1
        exact Rd.own h1 hb
      have HFN := Lib.hid (findLQ_calls b Ah nh ch hv x.key _ hrh)
      obtain ⟨L, hL⟩ : ∃ L, (rBlk gx 59 (sltL x) :: rBlk gn 3 #[.int .i64 S.2] :: rBlk gb 26 #[.slice A S.1.length c] :: rSt w0.heap.size A S.1.length c S.1 :: rBlk gl 42 #[.slice Ax n cx] :: rBlk gg 90 #[cloV gl gg gr gn gb] :: rBlk gr 3 #[.int .i64 rest] :: RT :: l) = L := ⟨_, rfl⟩
      have HLL := Lib.hid hL
      rw [hL] at hS2
      have HS2 := Lib.hid hS2
      have hk0 : (0 : Int) ≤ (k : Int) := by omega
      have hk1 : (k : Int) < (n : Int) := by omega
      obtain ⟨W1, hW1⟩ : ∃ W1, wr.alloc (.cells (sltL x) 59) = W1 := ⟨_, rfl⟩
      rw [hW1] at HFN HS2
      have HW1 := Lib.hid hW1
      subst hA
      clear hcs hx hS hS2 hrh hrx hSS hL hW1
      by_cases hF : findL hv x.key < 0
      · rw [if_pos hF] at hST
        have HST := Lib.hid hST
        obtain ⟨F, hFF⟩ : ∃ F, findL hv x.key = F := ⟨_, rfl⟩
        have HFF := Lib.hid hFF
        rw [hFF] at hF HFN
        obtain ⟨ri, hri, hrx⟩ : ∃ ri, ∃ h : ri < rs.length, rs[ri] = x := by
          rcases List.mem_append.1 (HP.out.mem_iff.2 hxm) with h | h
          · exact absurd rfl ((findL_no hv x.key).1 (by rw [hFF]; exact hF) x h)
          · exact List.getElem_of_mem h
        have hpe : (x :: rs.eraseIdx ri).Perm rs := by rw [← hrx]; exact erase_perm rs ri hri
        have HPE : Hid ((rs.eraseIdx ri).length = m ∧ ((hv ++ [x]) ++ rs.eraseIdx ri).Perm xs) := Lib.hid ⟨by rw [List.length_eraseIdx_of_lt hri, HRS.out]; omega, by rw [List.append_assoc]; exact (List.Perm.append_left hv hpe).trans HP.out⟩
        clear hST hFF hpe hrx hri
        go_wp2_with fail
        rw [HW1.out]
        refine HFN.out.mono ?_
        rintro e w2 ⟨rfl, hb2⟩
        have hT0 : S6 w0 x L none none w2 := HS2.out.callB hb2
        have hokx : SltOk w0 b x := HR.out.ok x hxm
        have HX : Hid (∀ (V : World) (lit : Option Nat) (c_ : Option (Option Addr × Nat × List Slt)), S6 w0 x L lit c_ V → V.cell? ⟨gx, 0, none⟩ = some (.string x.key) ∧ V.cell? ⟨gx, 1, none⟩ = some (.string x.who) ∧ V.cell? ⟨gx, 2, none⟩ = some (.slice x.ha x.hosts.length x.hc) ∧ V.cell? ⟨gx, 3, none⟩ = some (.int .i64 x.setup) ∧ V.cell? ⟨gx, 4, none⟩ = some (.int .i64 x.long) ∧ V.cell? ⟨gg, 0, none⟩ = some (cloV gl gg gr gn gb)) := Lib.hid (fun V lit c_ h => by
          have hb : Blk V gx 59 (sltL x) := h.mem (by rw [← HLL.out]; exact List.mem_cons_self ..)
          have hg : Blk V gg 90 #[cloV gl gg gr gn gb] := h.mem (by rw [← HLL.out]; exact List.mem_of_getElem? (i := 5) rfl)
          exact ⟨hb.cell 0, hb.cell 1, hb.cell 2, hb.cell 3, hb.cell 4, hg.cell 0⟩)
        have HCLN : Hid (∀ (V : World) (lit : Option Nat), S6 w0 x L lit none V → Calls Try.prog 51 #[.slice Ah nh ch] V (fun e V' => ∃ A' c', e = .returned (.slice A' nh c') ∧ S6 w0 x L lit (some (A', c', hv)) V')) := Lib.hid (fun V lit h => by
          have ho : RT.P V := h.mem (by rw [← HLL.out]; exact List.mem_of_getElem? (i := 7) rfl)
          rw [← HTS.out] at ho
          refine (cloneSlt_calls b _ _ _ _ V (Rd.own ho hb) (sltC_one hv) (by omega)).mono ?_
          rintro e V' ⟨v, rfl, h1, h2⟩
          obtain ⟨A', c', rfl⟩ := own_form h1
          refine ⟨A', c', rfl, h.clone h2 ?_⟩
          rw [HHL.out]
          exact h1)
        have HREC : Hid (∀ (V : World) (g2 : Nat) (A' : Option Addr) (c' : Nat), S6 w0 x L (some g2) (some (A', c', hv ++ [x])) V → Calls Try.prog 66 #[.slice A' (nh + 1) c', .pointer (some ⟨gl, 0, none⟩), .pointer (some ⟨gg, 0, none⟩), .pointer (some ⟨gr, 0, none⟩), .pointer (some ⟨gn, 0, none⟩), .pointer (some ⟨gb, 0, none⟩)] V (fun e V' => e = .returned (.tuple #[]) ∧ (V'.cell? ⟨gx, 0, none⟩ = some (.string x.key) ∧ V'.cell? ⟨gx, 1, none⟩ = some (.string x.who) ∧ V'.cell? ⟨gx, 2, none⟩ = some (.slice x.ha x.hosts.length x.hc) ∧ V'.cell? ⟨gx, 3, none⟩ = some (.int .i64 x.setup) ∧ V'.cell? ⟨gx, 4, none⟩ = some (.int .i64 x.long) ∧ V'.cell? ⟨gg, 0, none⟩ = some (cloV gl gg gr gn gb)) ∧ StQ w0 gl gg gr gn gb (some ⟨g, o, none⟩) n cx rest ((permsQ xs m (hv ++ [x])).foldl (stepQ rest) S) V' (RT :: l))) := Lib.hid (fun V g2 A' c' h => by
          unfold S6 at h
          rw [← HLL.out] at h
          have h1 : Sq w0 V (rBlk g2 59 (sltL x) :: rSl w0.heap.size A' (hv ++ [x]).length c' (hv ++ [x]) :: rBlk gx 59 (sltL x) :: rBlk gn 3 #[.int .i64 S.2] :: rBlk gb 26 #[.slice A S.1.length c] :: rSt w0.heap.size A S.1.length c S.1 :: rBlk gl 42 #[.slice (some ⟨g, o, none⟩) n cx] :: rBlk gg 90 #[cloV gl gg gr gn gb] :: rBlk gr 3 #[.int .i64 rest] :: RT :: l) := h
          rw [List.length_append, HHL.out] at h1
          have h2 := ((((((h1.front 1 rfl rfl).front 8 rfl rfl).front 8 rfl rfl).front 8 rfl rfl).front 8 rfl rfl).front 8 rfl rfl).front 8 rfl rfl
          refine (IH.out b w0 V gl gg gr gn gb _ n cx xs rest S _ A' (nh + 1) c' (hv ++ [x]) _ hb HRB.out hSB HR.out HK1.out HPE.out.1 HPE.out.2 hn ⟨A, c, h2⟩).mono ?_
          rintro e V' ⟨rfl, A2, c2, h3⟩
          have hb2 : Blk V' gx 59 (sltL x) := h3.nth 8 rfl
          have hg2 : Blk V' gg 90 #[cloV gl gg gr gn gb] := h3.nth 4 rfl
          exact ⟨rfl, ⟨hb2.cell 0, hb2.cell 1, hb2.cell 2, hb2.cell 3, hb2.cell 4, hg2.cell 0⟩, A2, c2, ((h3.drop 6 rfl rfl).drop 6 rfl rfl).drop 6 rfl rfl⟩)
        have hT := hT0.drew
        have hTa := hT0.lay.drew
        have hn1000 : nh ≤ 1000 := by omega
        have HHV := HHL.out
        have hgx2 : gx < w2.heap.size := (show Blk w2 gx 59 (sltL x) from hT0.mem (by rw [← HLL.out]; exact List.mem_cons_self ..)).lt
        have hgg2 : gg < w2.heap.size := (show Blk w2 gg 90 #[cloV gl gg gr gn gb] from hT0.mem (by rw [← HLL.out]; exact List.mem_of_getElem? (i := 5) rfl)).lt
        obtain ⟨i1, i2, i3, i4, i5, i6⟩ := HX.out _ _ _ hT0
        clear hokx hxm HS2 HFN x0 x1 x2 x3 x4 hgx hb2
        go_upto_region 4 with (fail)
        go_region_held3 (fun W => W.cell? ⟨gx, 0, none⟩ = some (.string x.key) ∧ W.cell? ⟨gx, 1, none⟩ = some (.string x.who) ∧ W.cell? ⟨gx, 2, none⟩ = some (.slice x.ha x.hosts.length x.hc) ∧ W.cell? ⟨gx, 3, none⟩ = some (.int .i64 x.setup) ∧ W.cell? ⟨gx, 4, none⟩ = some (.int .i64 x.long) ∧ W.cell? ⟨gg, 0, none⟩ = some (cloV gl gg gr gn gb))
          (first | (with_reducible exact HX.out _ _ _ hT) | (with_reducible exact HX.out _ _ _ hTa) | (with_reducible exact hG) | go_keep)
          (first
            | (go_at_call 51; ((with_reducible refine (HCLN.out _ _ hT).mono ?_); rintro e V ⟨A3, c3, rfl, hT⟩; have hTa := hT.lay))
            | (go_at_call 51; ((with_reducible refine (HCLN.out _ _ hTa).mono ?_); rintro e V ⟨A3, c3, rfl, hT⟩))
            | ((with_reducible refine step_app_q rfl (.tmp 26) (.tmp 28) rfl hT b hb HHV hn1000 rfl rfl ?_); intro A4 c4 V hT)
            | ((with_reducible refine step_app_q rfl (.tmp 26) (.tmp 28) rfl hTa b hb HHV hn1000 rfl rfl ?_); intro A4 c4 V hT)
            | (go_at_call 66; ((with_reducible refine (HREC.out _ _ _ _ hT).mono ?_); rintro e V ⟨rfl, hG, hF⟩)))
        all_goals
          rw [← HST.out] at hF
          go_wp2_with fail
          go_roundw
          case rel => exact ⟨k + 1, by omega, by go_num, hF⟩
          case measure => simp [intOf]; omega
      · rw [if_neg hF] at hST
        have HST := Lib.hid hST
        obtain ⟨F, hFF⟩ : ∃ F, findL hv x.key = F := ⟨_, rfl⟩
        rw [hFF] at hF HFN
        clear hST hFF hxm hSB
        go_wp2_with fail
        rw [HW1.out]
        refine HFN.out.mono ?_
        rintro e w2 ⟨rfl, hb2⟩
        have hS3 := HS2.out.callB hb2
        rw [← HLL.out] at hS3
        have hF3 : StQ w0 gl gg gr gn gb (some ⟨g, o, none⟩) n cx rest ((permsJ xs m hv (k + 1)).foldl (stepQ rest) s) w2 (RT :: l) := by
          rw [HST.out]
          exact ⟨A, c, hS3.tail⟩
        clear hS3
        go_wp2_with fail
        go_roundw
        case rel => exact ⟨k + 1, by omega, by go_num, hF3⟩
        case measure => simp [intOf]; omega
    · obtain rfl : k = n := by omega
      have hF : StQ w0 gl gg gr gn gb Ax k cx rest ((permsQ xs (m + 1) hv).foldl (stepQ rest) s) wr (RT :: l) := by
        have e : permsQ xs (m + 1) hv = permsJ xs m hv k := by
          unfold permsJ
          rw [List.take_of_length_le (by rw [HL.out]; exact Nat.le_refl _), permsQ]
        rw [e]
        exact hS
      have kl : wr.cell? ⟨gl, 0, none⟩ = some (.slice Ax k cx) := by
        obtain ⟨A, c, hS'⟩ := hF
        exact (show Blk wr gl 42 #[.slice Ax k cx] from hS'.nth 3 rfl).cell 0
      rw [← HTS.out] at hF
      have HF := Lib.hid hF
      clear hS hSS hF
      go_wp2_with fail
      refine bodyPost_ret (results_none rfl _ _ _) rfl ?_
      exact ⟨rfl, HF.out⟩
end Go.Proofs.Ytejadhehmcifoaa

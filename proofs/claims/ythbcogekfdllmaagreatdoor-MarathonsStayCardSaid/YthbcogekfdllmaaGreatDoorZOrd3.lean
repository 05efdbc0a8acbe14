/-
  marathon.orders by a contract: the recursion over all orders.
-/
import Derived.Test.YthbcogekfdllmaaGreatDoorZSlot9
namespace Go.Proofs.YthbcogekfdllmaaGreatDoor
open Go Go.RowKit
attribute [local go_sem ↓] Go.wp_at_zero Go.wp_at_succ

def opR {α : Type} (f : α → Rsc) : Option α → List Rsc
  | none => []
  | some a => [f a]
/-- a row of slots: where, capacity, what -/
abbrev SlR (w0 : World) (p : Nat × Nat × List Slt) : Rsc := rSl w0.heap.size (some ⟨p.1, 0, none⟩) p.2.2.length p.2.1 p.2.2
/-- a state within the region that makes the arguments of the call: the literal, the clone, the longer slice -/
def S5 (w0 : World) (x : Slt) (L : List Rsc) (lit : Option Nat) (cl nw : Option (Nat × Nat × List Slt)) (V : World) : Prop :=
  Sq w0 V (opR (fun g => rBlk g 64 (sltL x)) lit ++ (opR (SlR w0) cl ++ (opR (SlR w0) nw ++ L)))
section
variable {w0 V V' : World} {x : Slt} {L : List Rsc} {lit : Option Nat} {cl nw : Option (Nat × Nat × List Slt)}
theorem S5.mem {r : Rsc} (h : S5 w0 x L lit cl nw V) (hr : r ∈ L) : r.P V := h.hp.hold r (List.mem_append_right _ (List.mem_append_right _ (List.mem_append_right _ hr)))
theorem S5.lay (h : S5 w0 x L none cl none V) : S5 w0 x L (some V.heap.size) cl none (V.alloc (.cells (sltL x) 64)) := by
  unfold S5 at *
  exact Sq.add h _ _
theorem S5.drew (h : S5 w0 x L lit cl nw V) : S5 w0 x L lit cl nw V.drew := Sq.drew h
theorem S5.drewN (h : S5 w0 x L lit cl nw V) (n : Nat) : S5 w0 x L lit cl nw (V.drewN n) := Sq.drewN h n
theorem sq_perm {l l' : List Rsc} (h : Sq w0 V l) (hp : l.Perm l') : Sq w0 V l' := ⟨h.below, h.hp.perm hp⟩
theorem S5.clone (h : S5 w0 x L lit none nw V) {g c : Nat} {ys : List Slt} (k : Below V.heap.size V V') (ho : V'.ownsRow V.heap.size 64 5 (.slice (some ⟨g, 0, none⟩) ys.length c) ys.length (ys.flatMap sltC)) : S5 w0 x L lit (some (g, c, ys)) nw V' := by
  unfold S5 at *
  refine sq_perm (Sq.ownB h k ho) ?_
  show (_ :: (opR _ lit ++ ([] ++ (opR (SlR w0) nw ++ L)))).Perm (opR _ lit ++ (SlR w0 (g, c, ys) :: (opR (SlR w0) nw ++ L)))
  exact List.perm_middle.symm
theorem S5.to_cl {g c : Nat} {ys : List Slt} (h : S5 w0 x L lit (some (g, c, ys)) nw V) : Sq w0 V (SlR w0 (g, c, ys) :: (opR (fun g => rBlk g 64 (sltL x)) lit ++ (opR (SlR w0) nw ++ L))) := by
  unfold S5 at h
  exact sq_perm h List.perm_middle
theorem S5.of_cl {g c : Nat} {ys : List Slt} (h : Sq w0 V (SlR w0 (g, c, ys) :: (opR (fun g => rBlk g 64 (sltL x)) lit ++ (opR (SlR w0) nw ++ L)))) : S5 w0 x L lit (some (g, c, ys)) nw V := by
  unfold S5
  exact sq_perm h List.perm_middle.symm
theorem S5.app {gl g c : Nat} {ys : List Slt} (h : S5 w0 x L (some gl) cl none V) (k : Below V.heap.size V V') (ho : V'.ownsRow V.heap.size 64 5 (.slice (some ⟨g, 0, none⟩) ys.length c) ys.length (ys.flatMap sltC)) : S5 w0 x L (some gl) cl (some (g, c, ys)) V' := by
  unfold S5 at *
  refine sq_perm (Sq.ownB h k ho) ?_
  show (_ :: rBlk gl _ _ :: (opR (SlR w0) cl ++ ([] ++ L))).Perm (rBlk gl _ _ :: (opR (SlR w0) cl ++ (SlR w0 (g, c, ys) :: L)))
  refine (List.Perm.swap _ _ _).trans (List.Perm.cons _ ?_)
  exact List.perm_middle.symm
theorem S5.blk {gl : Nat} (h : S5 w0 x L (some gl) cl nw V) : Blk V gl 64 (sltL x) := Sq.head (l := opR (SlR w0) cl ++ (opR (SlR w0) nw ++ L)) (r := rBlk gl 64 (sltL x)) h
end
/-- the append of one slot to a slice that has no room, in a region that draws -/
theorem step_app_sl {w0 V : World} {x : Slt} {L : List Rsc} {cl : Option (Nat × Nat × List Slt)} {gl : Nat} {ops : Array Oper} {o : Oper} {a : Act} {K : Act → World → Prop} {Q : Exit → Act → World → Prop} {E : Prop} (hgd : o.guard = none) (s y : Operand) (ho : o.op = .call { callee := .builtin .append, args := #[s, y], argTypes := #[49, 49] })
    (hT : S5 w0 x L (some gl) cl none V) (b : Nat) (A : Option Addr) (n c : Nat) (ts : List Slt) (hr : ∀ V, S5 w0 x L (some gl) cl none V → Rd V b 5 (.slice A n c) n (ts.flatMap sltC)) (hn : n ≤ 1000) (hs : a.eval s = .slice A n n) (hx : a.eval y = .slice (some ⟨gl, 0, none⟩) 1 1)
    (h : ∀ g c' V', S5 w0 x L (some gl) cl (some (g, c', ts ++ [x])) V' → K (a.put o.dst (.slice (some ⟨g, 0, none⟩) (n + 1) c')) V') :
    if Region.wanted o (yielded ops a.tmps) = true then Oper.wp Tryz.prog o a V K Q else E := by
  obtain ⟨i0, hi, hz0, hz1, hz2⟩ := info_parts info_slt
  have hb := hT.blk
  refine step_app_full hgd s y 49 ho 64 i0 (.agg #[.string ⟨#[]⟩, .string ⟨#[]⟩, .slice none 0 0, .int .i64 0, .int .i64 0]) 5 72 Tryz.underlying49 hi hz0 hz1 hz2 rfl (by decide) b n A c _ (hr V hT) hs ⟨gl, 0, none⟩ 1 1 (sltC x) hx rfl ?_ ?_ (by decide) (by unfold maxLen; omega) (by omega) ?_
  · intro j u hu
    have hadd : (⟨gl, 0, none⟩ : Addr).add j = ⟨gl, j, none⟩ := by unfold Addr.add; split <;> simp_all
    rw [hadd, hb.cell j]
    simpa [sltC] using hu
  · exact fun u hu => sltC_one [x] u (by simpa using hu)
  · intro v' w' h1 h2
    have hl : ts.length = n := by
      have := (hr V hT).len
      rw [flat_len sltC 5 sltC_len] at this
      omega
    obtain ⟨g, cap, hv, _, _⟩ := h1.form (by omega)
    subst hv
    refine h g cap w' (hT.app h2 ?_)
    have he : ts.flatMap sltC ++ sltC x = (ts ++ [x]).flatMap sltC := by simp
    rw [he] at h1
    rw [List.length_append, hl]
    exact h1

/-- what orders does: the best order of all -/
def OrdC (n : Nat) : Prop := ∀ (b : Nat) (w0 W : World) (gr gf gb : Nat) (rest : Int) (s : List Slt × Int) (l : List Rsc) (At AL : Option Addr) (nt ct cl : Nat) (ts ls : List Slt), b < w0.heap.size → 0 ≤ rest ∧ rest ≤ 86400000 → -1 ≤ s.2 ∧ s.2 ≤ 1000000 →
  ls.length = n → nt + n ≤ 1000 → OkS w0 b ts → OkS w0 b ls → StO w0 gr gf gb rest s W (rSl w0.heap.size At nt ct ts :: rSl w0.heap.size AL n cl ls :: l) →
    Calls Tryz.prog 71 #[.slice At nt ct, .slice AL n cl, .func (.func 72) #[] #[.pointer (some ⟨gr, 0, none⟩), .pointer (some ⟨gf, 0, none⟩), .pointer (some ⟨gb, 0, none⟩)]] W
      fun e W' => e = .returned (.tuple #[]) ∧ StO w0 gr gf gb rest ((permsO n ts ls).foldl (stepO rest) s) W' (rSl w0.heap.size At nt ct ts :: rSl w0.heap.size AL n cl ls :: l)
theorem fold_bd (rest : Int) : ∀ (P : List (List Slt)) (s : List Slt × Int), (∀ p ∈ P, p.length ≤ 1000) → -1 ≤ s.2 ∧ s.2 ≤ 1000000 → -1 ≤ (P.foldl (stepO rest) s).2 ∧ (P.foldl (stepO rest) s).2 ≤ 1000000
  | [], s, _, h => h
  | p :: P, s, hP, h => by
    rw [List.foldl_cons]
    refine fold_bd rest P _ (fun q hq => hP q (List.mem_cons_of_mem _ hq)) ?_
    have h1 := clN_pos rest p
    have h2 := clF_len_bd rest p (hP p (List.mem_cons_self ..))
    unfold stepO
    split
    · exact ⟨by simp only; omega, h2⟩
    · exact h
theorem permsO_len {n : Nat} {ts ls : List Slt} (hl : ls.length = n) : ∀ p ∈ permsO n ts ls, p.length = ts.length + n := by
  intro p hp
  obtain ⟨q, hq, rfl⟩ := (permsO_mem n ts ls p hl).1 hp
  rw [List.length_append, hq.length_eq, hl]
theorem permsK_len {n k : Nat} {ts ls : List Slt} (hl : ls.length = n + 1) : ∀ p ∈ permsK n ts ls k, p.length = ts.length + n + 1 := by
  intro p hp
  unfold permsK at hp
  obtain ⟨i, _, hp⟩ := List.mem_flatMap.1 hp
  split at hp
  · cases hp
  · rename_i y hy
    have hi : i < ls.length := (List.getElem?_eq_some_iff.1 hy).1
    have := permsO_len (by rw [List.length_eraseIdx_of_lt hi]; omega) p hp
    rw [this]
    simp
    omega

set_option maxRecDepth 100000 in
set_option maxHeartbeats 1000000 in
theorem orders_zero : OrdC 0 := by
  intro b w0 W gr gf gb rest s l At AL nt ct cl ts ls hb hrest hs hl hn hot hol hS
  obtain ⟨A, c, hS'⟩ := hS
  have hown : W.ownsRow w0.heap.size 64 5 (.slice At nt ct) nt (ts.flatMap sltC) := hS'.nth 4 rfl
  have HK := Lib.hid (ordF_calls b w0 W gr gf gb rest s _ At nt ct ts hb hrest hs ⟨A, c, hS'⟩ hot (Rd.own hown hb) (by omega))
  clear hown hS'
  go_enter Tryz.func71, Tryz.ntmps71
  go_wp2_with fail
  refine HK.out.mono ?_
  rintro e w1 ⟨rfl, hF⟩
  go_wp2_with fail
  refine bodyPost_ret (results_none rfl _ _ _) rfl ?_
  exact ⟨rfl, hF⟩

set_option maxRecDepth 100000 in
set_option maxHeartbeats 4000000 in
theorem orders_succ (m : Nat) (IH : Hid (OrdC m)) : OrdC (m + 1) := by
  intro b w0 W gr gf gb rest s l At AL nt ct cl ts ls hb hrest hs hl hn hot hol hS
  have HOT := Lib.hid hot
  have HOL := Lib.hid hol
  have HL := Lib.hid hl
  have HRB := Lib.hid hrest
  have HSB := Lib.hid hs
  have htl : ts.length = nt := by
    obtain ⟨A, c, hS'⟩ := hS
    have hown : W.ownsRow w0.heap.size 64 5 (.slice At nt ct) nt (ts.flatMap sltC) := hS'.nth 4 rfl
    have := hown.1
    rw [flat_len sltC 5 sltC_len] at this
    omega
  have HTL := Lib.hid htl
  obtain ⟨gL, hAL⟩ : ∃ gL, AL = some ⟨gL, 0, none⟩ := by
    obtain ⟨A, c, hS'⟩ := hS
    have hown : W.ownsRow w0.heap.size 64 5 (.slice AL (m + 1) cl) (m + 1) (ls.flatMap sltC) := hS'.nth 5 rfl
    obtain ⟨g, cap, hv, _, _⟩ := hown.form (by omega)
    injection hv with hv _ _
    exact ⟨g, hv⟩
  subst hAL
  have hAt : (At = none ∧ nt = 0 ∧ ct = 0) ∨ ∃ gT, At = some ⟨gT, 0, none⟩ := by
    obtain ⟨A, c, hS'⟩ := hS
    have hown : W.ownsRow w0.heap.size 64 5 (.slice At nt ct) nt (ts.flatMap sltC) := hS'.nth 4 rfl
    rcases hown.2 with ⟨h, h2⟩ | ⟨g, cap, cur, h, _⟩
    · injection h with h h' h''
      exact .inl ⟨h, h', h''⟩
    · injection h with h _ _
      exact .inr ⟨g, h⟩
  have hct : nt ≤ ct ∧ ct ≤ maxLen := by
    obtain ⟨A, c, hS'⟩ := hS
    have hown : W.ownsRow w0.heap.size 64 5 (.slice At nt ct) nt (ts.flatMap sltC) := hS'.nth 4 rfl
    exact own_cap hown
  obtain ⟨hct, hcm⟩ := hct
  unfold maxLen at hcm
  have hS0 : StO w0 gr gf gb rest ((permsK m ts ls 0).foldl (stepO rest) s) W (rSl w0.heap.size At nt ct ts :: rSl w0.heap.size (some ⟨gL, 0, none⟩) (m + 1) cl ls :: l) := hS
  have hm1 : (m + 1 : Nat) ≠ 0 := by omega
  clear hS hot hol hrest hs htl hl
  obtain ⟨RT, hTS⟩ : ∃ r : Rsc, rSl w0.heap.size At nt ct ts = r := ⟨_, rfl⟩
  rcases hAt with ⟨rfl, rfl, rfl⟩ | ⟨gT, rfl⟩
  · rw [hTS] at hS0
    have HTS := Lib.hid hTS
    have hn1 : (0 : Int) ≤ ((m + 1 : Nat) : Int) := by omega
    clear hTS
    go_enter Tryz.func71, Tryz.ntmps71
    go_wp2_with fail
    rename_i h0
    clear h0
    go_loopw [16] (fun i wr => ∃ k : Nat, k ≤ m + 1 ∧ i = .int .i64 k ∧ StO w0 gr gf gb rest ((permsK m ts ls k).foldl (stepO rest) s) wr (RT :: rSl w0.heap.size (some ⟨gL, 0, none⟩) (m + 1) cl ls :: l)) (fun i _ => (m + 1) - (intOf i).toNat)
    case atStart => exact ⟨0, Nat.zero_le _, rfl, hS0⟩
    case round =>
      clear hS0
      obtain ⟨k, hk, rfl, hS⟩ := hrel
      by_cases hlt : k < m + 1
      · have hkr : k < ls.length := by rw [HL.out]; exact hlt
        obtain ⟨S, hSS⟩ : ∃ S, (permsK m ts ls k).foldl (stepO rest) s = S := ⟨_, rfl⟩
        have hSB : -1 ≤ S.2 ∧ S.2 ≤ 1000000 := by
          rw [← hSS]
          exact fold_bd rest _ s (fun p hp => by rw [permsK_len HL.out p hp, HTL.out]; omega) HSB.out
        have HST : Hid ((permsK m ts ls (k + 1)).foldl (stepO rest) s = (permsO m (ts ++ [ls[k]]) (ls.eraseIdx k)).foldl (stepO rest) S) := Lib.hid (by rw [permsK_step m ts ls k hkr, List.foldl_append, hSS])
        rw [hSS] at hS
        obtain ⟨Ab, cb, hS⟩ := hS
        have hown : wr.ownsRow w0.heap.size 64 5 (.slice (some ⟨gL, 0, none⟩) (m + 1) cl) (m + 1) (ls.flatMap sltC) := hS.nth 5 rfl
        have c0 := own_cell sltC 5 sltC_len hown k 0 hkr hlt (by omega)
        have c1 := own_cell sltC 5 sltC_len hown k 1 hkr hlt (by omega)
        have c2 := own_cell sltC 5 sltC_len hown k 2 hkr hlt (by omega)
        have c3 := own_cell sltC 5 sltC_len hown k 3 hkr hlt (by omega)
        have c4 := own_cell sltC 5 sltC_len hown k 4 hkr hlt (by omega)
        have hokx : SltOk w0 b ls[k] := HOL.out _ (List.getElem_mem hkr)
        obtain ⟨x, hx⟩ : ∃ x, ls[k] = x := ⟨_, rfl⟩
        rw [hx] at c0 c1 c2 c3 c4 hokx HST
        replace c0 : wr.cell? ⟨gL, k * 5, none⟩ = some (.string x.key) := c0
        replace c1 : wr.cell? ⟨gL, k * 5 + 1, none⟩ = some (.string x.who) := c1
        replace c2 : wr.cell? ⟨gL, k * 5 + 2, none⟩ = some (.slice x.ha x.hosts.length x.hc) := c2
        replace c3 : wr.cell? ⟨gL, k * 5 + 3, none⟩ = some (.int .i64 x.setup) := c3
        replace c4 : wr.cell? ⟨gL, k * 5 + 4, none⟩ = some (.int .i64 x.long) := c4
        have el : (ls.eraseIdx k).length = m := by rw [List.length_eraseIdx_of_lt hkr, HL.out]; omega
        have et : (ts ++ [x]).length = 0 + 1 := by rw [List.length_append, HTL.out]; rfl
        obtain ⟨gx, hgx⟩ : ∃ g, wr.heap.size = g := ⟨_, rfl⟩
        have hS2 := hS.add (sltL x) 64
        rw [hgx] at hS2
        obtain ⟨L, hL⟩ : ∃ L, (rBlk gx 64 (sltL x) :: rBlk gf 3 #[.int .i64 S.2] :: rBlk gb 49 #[.slice Ab S.1.length cb] :: rSl w0.heap.size Ab S.1.length cb S.1 :: rBlk gr 3 #[.int .i64 rest] :: RT :: rSl w0.heap.size (some ⟨gL, 0, none⟩) (m + 1) cl ls :: l) = L := ⟨_, rfl⟩
        rw [hL] at hS2
        have hT0 : S5 w0 x L none none none (wr.alloc (.cells (sltL x) 64)) := hS2
        have HX : Hid (∀ (V : World) (lit : Option Nat) (c_ nw : Option (Nat × Nat × List Slt)), S5 w0 x L lit c_ nw V → V.cell? ⟨gx, 0, none⟩ = some (.string x.key) ∧ V.cell? ⟨gx, 1, none⟩ = some (.string x.who) ∧ V.cell? ⟨gx, 2, none⟩ = some (.slice x.ha x.hosts.length x.hc) ∧ V.cell? ⟨gx, 3, none⟩ = some (.int .i64 x.setup) ∧ V.cell? ⟨gx, 4, none⟩ = some (.int .i64 x.long)) := Lib.hid (fun V lit c_ nw h => by
          have hb : Blk V gx 64 (sltL x) := h.mem (by rw [← hL]; exact List.mem_cons_self ..)
          exact ⟨hb.cell 0, hb.cell 1, hb.cell 2, hb.cell 3, hb.cell 4⟩)
        have HRT : Hid (∀ (V : World) (lit : Option Nat) (c_ nw : Option (Nat × Nat × List Slt)), S5 w0 x L lit c_ nw V → Rd V b 5 (.slice none 0 0) 0 (ts.flatMap sltC)) := Lib.hid (fun V lit c_ nw h => by
          have ho : RT.P V := h.mem (by rw [← hL]; simp)
          rw [← HTS.out] at ho
          exact Rd.own ho hb)
        have HCLN : Hid (∀ (V : World) (lit : Option Nat) (nw : Option (Nat × Nat × List Slt)), S5 w0 x L lit none nw V → Calls Tryz.prog 67 #[.slice (some ⟨gL, 0, none⟩) (m + 1) cl] V (fun e V' => ∃ g c, e = .returned (.slice (some ⟨g, 0, none⟩) (m + 1) c) ∧ S5 w0 x L lit (some (g, c, ls)) nw V')) := Lib.hid (fun V lit nw h => by
          have ho : V.ownsRow w0.heap.size 64 5 (.slice (some ⟨gL, 0, none⟩) (m + 1) cl) (m + 1) (ls.flatMap sltC) := h.mem (r := rSl w0.heap.size (some ⟨gL, 0, none⟩) (m + 1) cl ls) (by rw [← hL]; simp)
          refine (cloneSlt_calls b _ _ _ _ V (Rd.own ho hb) (sltC_one ls) (by omega)).mono ?_
          rintro e V' ⟨v, rfl, h1, h2⟩
          obtain ⟨g, cap, hv, _, _⟩ := h1.form (by omega)
          subst hv
          refine ⟨g, cap, rfl, h.clone h2 ?_⟩
          rw [HL.out]
          exact h1)
        have HDEL : Hid (∀ (V : World) (lit : Option Nat) (nw : Option (Nat × Nat × List Slt)) (g c : Nat), S5 w0 x L lit (some (g, c, ls)) nw V → Calls Tryz.prog 129 #[.slice (some ⟨g, 0, none⟩) (m + 1) c, .int .i64 k, .int .i64 ((k : Int) + 1)] V (fun e V' => e = .returned (.slice (some ⟨g, 0, none⟩) m c) ∧ S5 w0 x L lit (some (g, c, ls.eraseIdx k)) nw V')) := Lib.hid (fun V lit nw g c h => by
          have h1 := h.to_cl
          unfold SlR at h1
          simp only at h1
          rw [HL.out] at h1
          refine (delSlt_calls w0 V _ g (m + 1) c k ls h1 hlt (by omega)).mono ?_
          rintro e V' ⟨rfl, h2⟩
          refine ⟨rfl, S5.of_cl ?_⟩
          unfold SlR
          simp only
          rw [el]
          exact h2)
        have HREC : Hid (∀ (V : World) (gl g c g2 c2 : Nat), S5 w0 x L (some gl) (some (g, c, ls.eraseIdx k)) (some (g2, c2, ts ++ [x])) V → Calls Tryz.prog 71 #[.slice (some ⟨g2, 0, none⟩) (0 + 1) c2, .slice (some ⟨g, 0, none⟩) m c, .func (.func 72) #[] #[.pointer (some ⟨gr, 0, none⟩), .pointer (some ⟨gf, 0, none⟩), .pointer (some ⟨gb, 0, none⟩)]] V (fun e V' => e = .returned (.tuple #[]) ∧ (V'.cell? ⟨gx, 0, none⟩ = some (.string x.key) ∧ V'.cell? ⟨gx, 1, none⟩ = some (.string x.who) ∧ V'.cell? ⟨gx, 2, none⟩ = some (.slice x.ha x.hosts.length x.hc) ∧ V'.cell? ⟨gx, 3, none⟩ = some (.int .i64 x.setup) ∧ V'.cell? ⟨gx, 4, none⟩ = some (.int .i64 x.long)) ∧ StO w0 gr gf gb rest ((permsO m (ts ++ [x]) (ls.eraseIdx k)).foldl (stepO rest) S) V' (RT :: rSl w0.heap.size (some ⟨gL, 0, none⟩) (m + 1) cl ls :: l))) := Lib.hid (fun V gl g c g2 c2 h => by
          subst hL
          have h1 : Sq w0 V (rBlk gl 64 (sltL x) :: SlR w0 (g, c, ls.eraseIdx k) :: SlR w0 (g2, c2, ts ++ [x]) :: rBlk gx 64 (sltL x) :: rBlk gf 3 #[.int .i64 S.2] :: rBlk gb 49 #[.slice Ab S.1.length cb] :: rSl w0.heap.size Ab S.1.length cb S.1 :: rBlk gr 3 #[.int .i64 rest] :: RT :: rSl w0.heap.size (some ⟨gL, 0, none⟩) (m + 1) cl ls :: l) := h
          unfold SlR at h1
          simp only at h1
          rw [el, et] at h1
          have h2 := (((((h1.front 1 rfl rfl).front 2 rfl rfl).front 7 rfl rfl).front 7 rfl rfl).front 7 rfl rfl).front 7 rfl rfl
          refine (IH.out b w0 V gr gf gb rest S _ _ _ (0 + 1) c2 c (ts ++ [x]) (ls.eraseIdx k) hb HRB.out hSB el (by omega) ?_ ?_ ⟨Ab, cb, h2⟩).mono ?_
          · intro y hy
            rcases List.mem_append.1 hy with hy | hy
            · exact HOT.out y hy
            · rw [List.mem_singleton.1 hy]; exact hokx
          · exact fun y hy => HOL.out y (List.mem_of_mem_eraseIdx hy)
          · rintro e V' ⟨rfl, A', c', h3⟩
            have hb2 : Blk V' gx 64 (sltL x) := h3.nth 7 rfl
            exact ⟨rfl, ⟨hb2.cell 0, hb2.cell 1, hb2.cell 2, hb2.cell 3, hb2.cell 4⟩, A', c', (((h3.drop 4 rfl rfl).drop 4 rfl rfl).drop 4 rfl rfl).drop 4 rfl rfl⟩)
        have hT := hT0.drew
        have hTa := hT0.lay.drew
        rw [World.size_alloc, hgx] at hTa
        have hk0 : (0 : Int) ≤ (k : Int) := by omega
        have hk1 : (k : Int) < ((m + 1 : Nat) : Int) := by omega
        have hk2 : IntKind.i64.wrap ((k : Int) + 1) = (k : Int) + 1 := by rw [IntKind.wrap_i64]; omega
        clear hS hS2 hown hokx hx hL el et hSS hSB
        go_upto_region 5 with (fail)
        obtain ⟨W2, hW2⟩ : ∃ W2, wr.alloc (.cells (sltL x) 64) = W2 := ⟨_, rfl⟩
        have hW2z : gx < W2.heap.size := by rw [← hW2, World.size_alloc, hgx]; omega
        rw [hW2] at hT hTa ⊢
        have hTa : S5 w0 x L (some W2.heap.size) none none (W2.alloc (.cells (sltL x) 64)).drew := by
          have : W2.heap.size = gx + 1 := by rw [← hW2, World.size_alloc, hgx]
          rw [this]
          exact hTa
        have hn1000 : 0 ≤ 1000 := by omega
        clear hW2 hT0 hgx c0 c1 c2 c3 c4
        go_region_held3 (fun W => W.cell? ⟨gx, 0, none⟩ = some (.string x.key) ∧ W.cell? ⟨gx, 1, none⟩ = some (.string x.who) ∧ W.cell? ⟨gx, 2, none⟩ = some (.slice x.ha x.hosts.length x.hc) ∧ W.cell? ⟨gx, 3, none⟩ = some (.int .i64 x.setup) ∧ W.cell? ⟨gx, 4, none⟩ = some (.int .i64 x.long))
          (first | (with_reducible exact HX.out _ _ _ _ hT) | (with_reducible exact HX.out _ _ _ _ hTa) | (with_reducible exact hG) | go_keep)
          (first
            | (go_at_call 67; ((with_reducible refine (HCLN.out _ _ _ hT).mono ?_); rintro e V ⟨g3, c3, rfl, hT⟩; have hTa := hT.lay))
            | (go_at_call 67; ((with_reducible refine (HCLN.out _ _ _ hTa).mono ?_); rintro e V ⟨g3, c3, rfl, hT⟩))
            | (go_at_call 67; ((with_reducible refine (HCLN.out _ _ _ hT).mono ?_); rintro e V ⟨g3, c3, rfl, hT⟩))
            | (go_at_call 129; ((with_reducible refine (HDEL.out _ _ _ _ _ hT).mono ?_); rintro e V ⟨rfl, hT⟩; have hTa := hT.lay))
            | (go_at_call 129; ((with_reducible refine (HDEL.out _ _ _ _ _ hTa).mono ?_); rintro e V ⟨rfl, hT⟩))
            | (go_at_call 129; ((with_reducible refine (HDEL.out _ _ _ _ _ hT).mono ?_); rintro e V ⟨rfl, hT⟩))
            | ((with_reducible refine step_app_sl rfl (.tmp 26) (.tmp 28) rfl hT b _ 0 _ ts (fun V h => HRT.out V _ _ _ h) hn1000 rfl rfl ?_); intro g4 c4 V hT)
            | ((with_reducible refine step_app_sl rfl (.tmp 26) (.tmp 28) rfl hTa b _ 0 _ ts (fun V h => HRT.out V _ _ _ h) hn1000 rfl rfl ?_); intro g4 c4 V hT)
            | (go_at_call 71; ((with_reducible refine (HREC.out _ _ _ _ _ _ hT).mono ?_); rintro e V ⟨rfl, hG, hF⟩)))
        all_goals
          rw [← HST.out] at hF
          go_wp2_with fail
          go_roundw
          case rel => exact ⟨k + 1, by omega, by go_num, hF⟩
          case measure => simp [intOf]; omega
      · obtain rfl : k = m + 1 := by omega
        go_wp2_with fail
        go_end0
        rw [HTS.out]
        exact ⟨rfl, hS⟩
  · rw [hTS] at hS0
    have HTS := Lib.hid hTS
    have hn1 : (0 : Int) ≤ ((m + 1 : Nat) : Int) := by omega
    clear hTS
    go_enter Tryz.func71, Tryz.ntmps71
    go_wp2_with fail
    rename_i h0
    clear h0
    go_loopw [16] (fun i wr => ∃ k : Nat, k ≤ m + 1 ∧ i = .int .i64 k ∧ StO w0 gr gf gb rest ((permsK m ts ls k).foldl (stepO rest) s) wr (RT :: rSl w0.heap.size (some ⟨gL, 0, none⟩) (m + 1) cl ls :: l)) (fun i _ => (m + 1) - (intOf i).toNat)
    case atStart => exact ⟨0, Nat.zero_le _, rfl, hS0⟩
    case round =>
      clear hS0
      obtain ⟨k, hk, rfl, hS⟩ := hrel
      by_cases hlt : k < m + 1
      · have hkr : k < ls.length := by rw [HL.out]; exact hlt
        obtain ⟨S, hSS⟩ : ∃ S, (permsK m ts ls k).foldl (stepO rest) s = S := ⟨_, rfl⟩
        have hSB : -1 ≤ S.2 ∧ S.2 ≤ 1000000 := by
          rw [← hSS]
          exact fold_bd rest _ s (fun p hp => by rw [permsK_len HL.out p hp, HTL.out]; omega) HSB.out
        have HST : Hid ((permsK m ts ls (k + 1)).foldl (stepO rest) s = (permsO m (ts ++ [ls[k]]) (ls.eraseIdx k)).foldl (stepO rest) S) := Lib.hid (by rw [permsK_step m ts ls k hkr, List.foldl_append, hSS])
        rw [hSS] at hS
        obtain ⟨Ab, cb, hS⟩ := hS
        have hown : wr.ownsRow w0.heap.size 64 5 (.slice (some ⟨gL, 0, none⟩) (m + 1) cl) (m + 1) (ls.flatMap sltC) := hS.nth 5 rfl
        have c0 := own_cell sltC 5 sltC_len hown k 0 hkr hlt (by omega)
        have c1 := own_cell sltC 5 sltC_len hown k 1 hkr hlt (by omega)
        have c2 := own_cell sltC 5 sltC_len hown k 2 hkr hlt (by omega)
        have c3 := own_cell sltC 5 sltC_len hown k 3 hkr hlt (by omega)
        have c4 := own_cell sltC 5 sltC_len hown k 4 hkr hlt (by omega)
        have hokx : SltOk w0 b ls[k] := HOL.out _ (List.getElem_mem hkr)
        obtain ⟨x, hx⟩ : ∃ x, ls[k] = x := ⟨_, rfl⟩
        rw [hx] at c0 c1 c2 c3 c4 hokx HST
        replace c0 : wr.cell? ⟨gL, k * 5, none⟩ = some (.string x.key) := c0
        replace c1 : wr.cell? ⟨gL, k * 5 + 1, none⟩ = some (.string x.who) := c1
        replace c2 : wr.cell? ⟨gL, k * 5 + 2, none⟩ = some (.slice x.ha x.hosts.length x.hc) := c2
        replace c3 : wr.cell? ⟨gL, k * 5 + 3, none⟩ = some (.int .i64 x.setup) := c3
        replace c4 : wr.cell? ⟨gL, k * 5 + 4, none⟩ = some (.int .i64 x.long) := c4
        have el : (ls.eraseIdx k).length = m := by rw [List.length_eraseIdx_of_lt hkr, HL.out]; omega
        have et : (ts ++ [x]).length = nt + 1 := by rw [List.length_append, HTL.out]; rfl
        obtain ⟨gx, hgx⟩ : ∃ g, wr.heap.size = g := ⟨_, rfl⟩
        have hS2 := hS.add (sltL x) 64
        rw [hgx] at hS2
        obtain ⟨L, hL⟩ : ∃ L, (rBlk gx 64 (sltL x) :: rBlk gf 3 #[.int .i64 S.2] :: rBlk gb 49 #[.slice Ab S.1.length cb] :: rSl w0.heap.size Ab S.1.length cb S.1 :: rBlk gr 3 #[.int .i64 rest] :: RT :: rSl w0.heap.size (some ⟨gL, 0, none⟩) (m + 1) cl ls :: l) = L := ⟨_, rfl⟩
        rw [hL] at hS2
        have hT0 : S5 w0 x L none none none (wr.alloc (.cells (sltL x) 64)) := hS2
        have HX : Hid (∀ (V : World) (lit : Option Nat) (c_ nw : Option (Nat × Nat × List Slt)), S5 w0 x L lit c_ nw V → V.cell? ⟨gx, 0, none⟩ = some (.string x.key) ∧ V.cell? ⟨gx, 1, none⟩ = some (.string x.who) ∧ V.cell? ⟨gx, 2, none⟩ = some (.slice x.ha x.hosts.length x.hc) ∧ V.cell? ⟨gx, 3, none⟩ = some (.int .i64 x.setup) ∧ V.cell? ⟨gx, 4, none⟩ = some (.int .i64 x.long)) := Lib.hid (fun V lit c_ nw h => by
          have hb : Blk V gx 64 (sltL x) := h.mem (by rw [← hL]; exact List.mem_cons_self ..)
          exact ⟨hb.cell 0, hb.cell 1, hb.cell 2, hb.cell 3, hb.cell 4⟩)
        have HRT : Hid (∀ (V : World) (lit : Option Nat) (c_ nw : Option (Nat × Nat × List Slt)), S5 w0 x L lit c_ nw V → Rd V b 5 (.slice (some ⟨gT, 0, none⟩) nt ct) nt (ts.flatMap sltC)) := Lib.hid (fun V lit c_ nw h => by
          have ho : RT.P V := h.mem (by rw [← hL]; simp)
          rw [← HTS.out] at ho
          exact Rd.own ho hb)
        have HCLN : Hid (∀ (V : World) (lit : Option Nat) (nw : Option (Nat × Nat × List Slt)), S5 w0 x L lit none nw V → Calls Tryz.prog 67 #[.slice (some ⟨gL, 0, none⟩) (m + 1) cl] V (fun e V' => ∃ g c, e = .returned (.slice (some ⟨g, 0, none⟩) (m + 1) c) ∧ S5 w0 x L lit (some (g, c, ls)) nw V')) := Lib.hid (fun V lit nw h => by
          have ho : V.ownsRow w0.heap.size 64 5 (.slice (some ⟨gL, 0, none⟩) (m + 1) cl) (m + 1) (ls.flatMap sltC) := h.mem (r := rSl w0.heap.size (some ⟨gL, 0, none⟩) (m + 1) cl ls) (by rw [← hL]; simp)
          refine (cloneSlt_calls b _ _ _ _ V (Rd.own ho hb) (sltC_one ls) (by omega)).mono ?_
          rintro e V' ⟨v, rfl, h1, h2⟩
          obtain ⟨g, cap, hv, _, _⟩ := h1.form (by omega)
          subst hv
          refine ⟨g, cap, rfl, h.clone h2 ?_⟩
          rw [HL.out]
          exact h1)
        have HDEL : Hid (∀ (V : World) (lit : Option Nat) (nw : Option (Nat × Nat × List Slt)) (g c : Nat), S5 w0 x L lit (some (g, c, ls)) nw V → Calls Tryz.prog 129 #[.slice (some ⟨g, 0, none⟩) (m + 1) c, .int .i64 k, .int .i64 ((k : Int) + 1)] V (fun e V' => e = .returned (.slice (some ⟨g, 0, none⟩) m c) ∧ S5 w0 x L lit (some (g, c, ls.eraseIdx k)) nw V')) := Lib.hid (fun V lit nw g c h => by
          have h1 := h.to_cl
          unfold SlR at h1
          simp only at h1
          rw [HL.out] at h1
          refine (delSlt_calls w0 V _ g (m + 1) c k ls h1 hlt (by omega)).mono ?_
          rintro e V' ⟨rfl, h2⟩
          refine ⟨rfl, S5.of_cl ?_⟩
          unfold SlR
          simp only
          rw [el]
          exact h2)
        have HREC : Hid (∀ (V : World) (gl g c g2 c2 : Nat), S5 w0 x L (some gl) (some (g, c, ls.eraseIdx k)) (some (g2, c2, ts ++ [x])) V → Calls Tryz.prog 71 #[.slice (some ⟨g2, 0, none⟩) (nt + 1) c2, .slice (some ⟨g, 0, none⟩) m c, .func (.func 72) #[] #[.pointer (some ⟨gr, 0, none⟩), .pointer (some ⟨gf, 0, none⟩), .pointer (some ⟨gb, 0, none⟩)]] V (fun e V' => e = .returned (.tuple #[]) ∧ (V'.cell? ⟨gx, 0, none⟩ = some (.string x.key) ∧ V'.cell? ⟨gx, 1, none⟩ = some (.string x.who) ∧ V'.cell? ⟨gx, 2, none⟩ = some (.slice x.ha x.hosts.length x.hc) ∧ V'.cell? ⟨gx, 3, none⟩ = some (.int .i64 x.setup) ∧ V'.cell? ⟨gx, 4, none⟩ = some (.int .i64 x.long)) ∧ StO w0 gr gf gb rest ((permsO m (ts ++ [x]) (ls.eraseIdx k)).foldl (stepO rest) S) V' (RT :: rSl w0.heap.size (some ⟨gL, 0, none⟩) (m + 1) cl ls :: l))) := Lib.hid (fun V gl g c g2 c2 h => by
          subst hL
          have h1 : Sq w0 V (rBlk gl 64 (sltL x) :: SlR w0 (g, c, ls.eraseIdx k) :: SlR w0 (g2, c2, ts ++ [x]) :: rBlk gx 64 (sltL x) :: rBlk gf 3 #[.int .i64 S.2] :: rBlk gb 49 #[.slice Ab S.1.length cb] :: rSl w0.heap.size Ab S.1.length cb S.1 :: rBlk gr 3 #[.int .i64 rest] :: RT :: rSl w0.heap.size (some ⟨gL, 0, none⟩) (m + 1) cl ls :: l) := h
          unfold SlR at h1
          simp only at h1
          rw [el, et] at h1
          have h2 := (((((h1.front 1 rfl rfl).front 2 rfl rfl).front 7 rfl rfl).front 7 rfl rfl).front 7 rfl rfl).front 7 rfl rfl
          refine (IH.out b w0 V gr gf gb rest S _ _ _ (nt + 1) c2 c (ts ++ [x]) (ls.eraseIdx k) hb HRB.out hSB el (by omega) ?_ ?_ ⟨Ab, cb, h2⟩).mono ?_
          · intro y hy
            rcases List.mem_append.1 hy with hy | hy
            · exact HOT.out y hy
            · rw [List.mem_singleton.1 hy]; exact hokx
          · exact fun y hy => HOL.out y (List.mem_of_mem_eraseIdx hy)
          · rintro e V' ⟨rfl, A', c', h3⟩
            have hb2 : Blk V' gx 64 (sltL x) := h3.nth 7 rfl
            exact ⟨rfl, ⟨hb2.cell 0, hb2.cell 1, hb2.cell 2, hb2.cell 3, hb2.cell 4⟩, A', c', (((h3.drop 4 rfl rfl).drop 4 rfl rfl).drop 4 rfl rfl).drop 4 rfl rfl⟩)
        have hT := hT0.drew
        have hTa := hT0.lay.drew
        rw [World.size_alloc, hgx] at hTa
        have hk0 : (0 : Int) ≤ (k : Int) := by omega
        have hk1 : (k : Int) < ((m + 1 : Nat) : Int) := by omega
        have hk2 : IntKind.i64.wrap ((k : Int) + 1) = (k : Int) + 1 := by rw [IntKind.wrap_i64]; omega
        clear hS hS2 hown hokx hx hL el et hSS hSB
        go_upto_region 5 with (fail)
        obtain ⟨W2, hW2⟩ : ∃ W2, wr.alloc (.cells (sltL x) 64) = W2 := ⟨_, rfl⟩
        have hW2z : gx < W2.heap.size := by rw [← hW2, World.size_alloc, hgx]; omega
        rw [hW2] at hT hTa ⊢
        have hTa : S5 w0 x L (some W2.heap.size) none none (W2.alloc (.cells (sltL x) 64)).drew := by
          have : W2.heap.size = gx + 1 := by rw [← hW2, World.size_alloc, hgx]
          rw [this]
          exact hTa
        have hn1000 : nt ≤ 1000 := by omega
        clear hW2 hT0 hgx c0 c1 c2 c3 c4
        go_region_held3 (fun W => W.cell? ⟨gx, 0, none⟩ = some (.string x.key) ∧ W.cell? ⟨gx, 1, none⟩ = some (.string x.who) ∧ W.cell? ⟨gx, 2, none⟩ = some (.slice x.ha x.hosts.length x.hc) ∧ W.cell? ⟨gx, 3, none⟩ = some (.int .i64 x.setup) ∧ W.cell? ⟨gx, 4, none⟩ = some (.int .i64 x.long))
          (first | (with_reducible exact HX.out _ _ _ _ hT) | (with_reducible exact HX.out _ _ _ _ hTa) | (with_reducible exact hG) | go_keep)
          (first
            | (go_at_call 67; ((with_reducible refine (HCLN.out _ _ _ hT).mono ?_); rintro e V ⟨g3, c3, rfl, hT⟩; have hTa := hT.lay))
            | (go_at_call 67; ((with_reducible refine (HCLN.out _ _ _ hTa).mono ?_); rintro e V ⟨g3, c3, rfl, hT⟩))
            | (go_at_call 67; ((with_reducible refine (HCLN.out _ _ _ hT).mono ?_); rintro e V ⟨g3, c3, rfl, hT⟩))
            | (go_at_call 129; ((with_reducible refine (HDEL.out _ _ _ _ _ hT).mono ?_); rintro e V ⟨rfl, hT⟩; have hTa := hT.lay))
            | (go_at_call 129; ((with_reducible refine (HDEL.out _ _ _ _ _ hTa).mono ?_); rintro e V ⟨rfl, hT⟩))
            | (go_at_call 129; ((with_reducible refine (HDEL.out _ _ _ _ _ hT).mono ?_); rintro e V ⟨rfl, hT⟩))
            | ((with_reducible refine step_app_sl rfl (.tmp 26) (.tmp 28) rfl hT b _ nt _ ts (fun V h => HRT.out V _ _ _ h) hn1000 rfl rfl ?_); intro g4 c4 V hT)
            | ((with_reducible refine step_app_sl rfl (.tmp 26) (.tmp 28) rfl hTa b _ nt _ ts (fun V h => HRT.out V _ _ _ h) hn1000 rfl rfl ?_); intro g4 c4 V hT)
            | (go_at_call 71; ((with_reducible refine (HREC.out _ _ _ _ _ _ hT).mono ?_); rintro e V ⟨rfl, hG, hF⟩)))
        all_goals
          rw [← HST.out] at hF
          go_wp2_with fail
          go_roundw
          case rel => exact ⟨k + 1, by omega, by go_num, hF⟩
          case measure => simp [intOf]; omega
      · obtain rfl : k = m + 1 := by omega
        go_wp2_with fail
        go_end0
        rw [HTS.out]
        exact ⟨rfl, hS⟩
theorem orders_calls : ∀ n, OrdC n
  | 0 => orders_zero
  | m + 1 => orders_succ m (Lib.hid (orders_calls m))
end Go.Proofs.YthbcogekfdllmaaGreatDoor

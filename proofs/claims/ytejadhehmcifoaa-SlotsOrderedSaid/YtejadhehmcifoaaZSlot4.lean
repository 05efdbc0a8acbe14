/-
  slices.Clone of strings, marathon.needed and splitref2.people by contracts. (Printed by gen_slot4.py.)
-/
import Derived.Test.YtejadhehmcifoaaZSlot1
import Derived.Test.YtejadhehmcifoaaZRatMake
import Derived.Lib.SliceRun
import Derived.Laws.AppendOwnNone
namespace Go.Proofs.Ytejadhehmcifoaa
open Go Go.RowKit
attribute [local go_sem ↓] Go.wp_at_zero Go.wp_at_succ

theorem info_str : (Try.prog.info? 9).map (fun i => (i.zero, i.size, i.bytes)) = some (some (.string ⟨#[]⟩), 1, 16) := by kernel_rfl
theorem strsV_one (l : List ByteArray) : ∀ u ∈ strsV l, u.oneCell' = true := by
  intro u hu
  obtain ⟨s, _, rfl⟩ := List.mem_map.1 hu
  rfl
theorem one1 {x : Value} (hx : x.oneCell' = true) : ∀ u ∈ [x], u.oneCell' = true := by
  intro u hu
  simp at hu
  subst hu
  exact hx
set_option maxRecDepth 100000 in
theorem cloneS_calls (b : Nat) (A : Option Addr) (n c : Nat) (xs : List Value) (w : World) (hr : Rd w b 1 (.slice A n c) n xs) (h1 : ∀ u ∈ xs, u.oneCell' = true) (hn : n ≤ 100000) :
    Calls Try.prog 47 #[.slice A n c] w fun e w' => ∃ v, e = .returned v ∧ w'.ownsRow w.heap.size 9 1 v n xs ∧ Below w.heap.size w w' := by
  obtain ⟨i0, hi, hz0, hz1, hz2⟩ := info_parts info_str
  have q29 : ∀ (w : World) (a : Option Addr) (n c n' c' : Nat), (binOp .eql 26 (.slice a n c) (.slice none n' c')).run Try.prog w = .ok (.bool a.isNone) w := fun w a n c n' c' => Lib.run_eql_slice_nil w _ _ a n c n' c' Try.underlying26
  obtain ⟨A', c', e1, e2, e3, e4, e5, e6⟩ := hr
  injection e1 with ea eb ec
  subst ea ec
  cases A with
  | none =>
    obtain ⟨rfl, rfl⟩ := e5 rfl
    have hx : xs = [] := List.eq_nil_of_length_eq_zero (by simpa using e4)
    subst hx
    clear e6
    go_enter Try.func47, Try.ntmps47
    go_wp2
    go_ret
    exact ⟨_, rfl, World.ownsRow_nil _ _ _ _, Below.refl _ _⟩
  | some a =>
    have hcells : ∀ j u, xs[j]? = some u → w.cell? (a.add j) = some u := by
      intro j u hu
      have hpos : 0 < n := by
        rcases Nat.eq_zero_or_pos n with h | h
        · subst h
          have hx : xs = [] := List.eq_nil_of_length_eq_zero (by simpa using e4)
          subst hx
          simp at hu
        · exact h
      obtain ⟨g, o, f1, _, f3⟩ := e6 hpos
      injection f1 with f1
      subst f1
      have hadd : (⟨g, o, none⟩ : Addr).add j = ⟨g, o + j, none⟩ := by unfold Addr.add; split <;> simp_all
      rw [hadd]
      exact f3 j u hu
    have hcells2 : ∀ ob : Obj, ∀ j u, xs[j]? = some u → (w.alloc ob).cell? (a.add j) = some u := fun ob j u hu =>
      (World.cell?_alloc_lt w ob (a.add j) (World.block_lt_of_cell? w _ (hcells j u hu))).trans (hcells j u hu)
    clear e6 hcells
    go_enter Try.func47, Try.ntmps47
    go_wp2_with (first
      | (at_builtin; refine wpList_append_own _ rfl _ _ 26 rfl w.heap.size 9 i0 (.string ⟨#[]⟩) 1 16 Try.underlying26 hi hz0 hz1 hz2 rfl (by decide) _ 0 [] rfl (World.ownsRow_lit (base := w.heap.size) w #[] 0 (Nat.le_refl _) (by decide) rfl) a n c xs rfl (by omega) (hcells2 _) h1 (by unfold maxLen; omega) (by omega) (by simp) ?_; intro v' w1 hown' hgrow hnil))
    go_ret
    refine ⟨_, rfl, by simpa using hown', ((Below.refl _ _).alloc (Nat.le_refl _) _).grown hgrow (by simp) (fun q hq => ?_)⟩
    have h2 : some w.heap.size = some q := hq
    injection h2 with h2
    omega

/-- names in new memory -/
def StrsS (l : List ByteArray) (w : World) (e : Ending) (w' : World) : Prop :=
  ∃ v, e = .returned v ∧ w'.ownsRow w.heap.size 9 1 v l.length (strsV l) ∧ Below w.heap.size w w'
theorem own_strs {w : World} {base n : Nat} {v : Value} {l : List ByteArray} {xs : List Value} (h : w.ownsRow base 9 1 v n xs) (hn : n = l.length) (hx : xs = strsV l) : w.ownsRow base 9 1 v l.length (strsV l) := by subst hn hx; exact h

set_option maxRecDepth 100000 in
theorem needed_calls (b : Nat) (x : Slt) (w : World) (hx : SltOk w b x) :
    Calls Try.prog 88 #[.agg #[.string x.key, .string x.who, .slice x.ha x.hosts.length x.hc, .int .i64 x.setup, .int .i64 x.long]] w (StrsS (x.who :: x.hosts) w) := by
  obtain ⟨h1, h2, h3, h4, h5, h6, h7⟩ := hx
  obtain ⟨key, who, ha, hc, hosts, su, lo⟩ := x
  simp only at h1 h2 h3 h4 h5 h6 h7
  obtain ⟨i0, hi, hz0, hz1, hz2⟩ := info_parts info_str
  obtain ⟨n, hn⟩ : ∃ n, hosts.length = n := ⟨_, rfl⟩
  simp only [hn]
  rw [hn] at h1 h5
  have HN := Lib.hid hn
  have hA : Below w.heap.size w ((w.alloc (.cells #[.string key, .string who, .slice ha n hc, .int .i64 su, .int .i64 lo] 59)).alloc (.cells #[.string who] 9)) := ((Below.refl _ _).alloc (Nat.le_refl _) _).alloc (by simp) _
  have h1' := ((h1.below ((Below.refl _ _).alloc (Nat.le_refl _) (.cells #[.string key, .string who, .slice ha n hc, .int .i64 su, .int .i64 lo] 59))).below ((Below.refl _ _).alloc (Nat.le_refl _) (.cells #[.string who] 9)))
  have hlit : ((w.alloc (.cells #[.string key, .string who, .slice ha n hc, .int .i64 su, .int .i64 lo] 59)).alloc (.cells #[.string who] 9)).ownsRow w.heap.size 9 1 (.slice (some ⟨w.heap.size + 1, 0, none⟩) 1 1) 1 [.string who] := by
    have := World.ownsRow_lit (base := w.heap.size) (size := 1) (e := 9) (w.alloc (.cells #[.string key, .string who, .slice ha n hc, .int .i64 su, .int .i64 lo] 59)) #[.string who] 1 (by simp) (by decide) rfl
    simpa using this
  obtain ⟨A', c', e1, e2, e3, e4, e5, e6⟩ := h1'
  injection e1 with ea eb ec
  subst ea ec
  cases ha with
  | none =>
    obtain ⟨rfl, rfl⟩ := e5 rfl
    have hx : hosts = [] := List.eq_nil_of_length_eq_zero hn
    subst hx
    clear e6
    go_enter Try.func88, Try.ntmps88
    go_wp2_with fail
    go_ret
    exact ⟨_, rfl, own_strs hlit rfl rfl, hA⟩
  | some a =>
    have hcells : ∀ j u, (strsV hosts)[j]? = some u → ((w.alloc (.cells #[.string key, .string who, .slice (some a) n hc, .int .i64 su, .int .i64 lo] 59)).alloc (.cells #[.string who] 9)).cell? (a.add j) = some u := by
      intro j u hu
      have hpos : 0 < n := by
        rcases Nat.eq_zero_or_pos n with h | h
        · subst h
          have hx : hosts = [] := List.eq_nil_of_length_eq_zero hn
          subst hx
          simp [strsV] at hu
        · exact h
      obtain ⟨g, o, f1, _, f3⟩ := e6 hpos
      injection f1 with f1
      subst f1
      have hadd : (⟨g, o, none⟩ : Addr).add j = ⟨g, o + j, none⟩ := by unfold Addr.add; split <;> simp_all
      rw [hadd]
      exact f3 j u hu
    clear e6
    go_enter Try.func88, Try.ntmps88
    go_wp2_with (first
      | (at_builtin; refine wpList_append_own _ rfl _ _ 26 rfl w.heap.size 9 i0 (.string ⟨#[]⟩) 1 16 Try.underlying26 hi hz0 hz1 hz2 rfl (by decide) _ 1 [.string who] rfl hlit a n hc (strsV hosts) rfl (by simpa using e4) hcells (strsV_one _) (by unfold maxLen; omega) (by omega) (by simp; omega) ?_; intro v' w1 hown' hgrow hnil))
    go_ret
    refine ⟨_, rfl, own_strs hown' (by simp [hn]; omega) rfl, hA.grown hgrow (by simp; omega) (fun q hq => ?_)⟩
    have h2 : some (w.heap.size + 1) = some q := hq
    injection h2 with h2
    omega

set_option maxRecDepth 100000 in
set_option maxHeartbeats 1000000 in
theorem people_calls (b : Nat) (x : Slt) (w : World) (hx : SltOk w b x) (_hb : b < w.heap.size) :
    Calls Try.prog 94 #[.agg #[.string x.key, .string x.who, .slice x.ha x.hosts.length x.hc, .int .i64 x.setup, .int .i64 x.long]] w (StrsS (x.hosts ++ [x.who]) w) := by
  obtain ⟨h1, h2, h3, h4, h5, h6, h7⟩ := hx
  obtain ⟨key, who, ha, hc, hosts, su, lo⟩ := x
  simp only at h1 h2 h3 h4 h5 h6 h7
  obtain ⟨i0, hi, hz0, hz1, hz2⟩ := info_parts info_str
  obtain ⟨n, hn⟩ : ∃ n, hosts.length = n := ⟨_, rfl⟩
  simp only [hn]
  rw [hn] at h1 h5
  have HN := Lib.hid hn
  have hA : Below w.heap.size w (w.alloc (.cells #[.string key, .string who, .slice ha n hc, .int .i64 su, .int .i64 lo] 59)) := (Below.refl _ _).alloc (Nat.le_refl _) _
  have h1' := h1.below hA
  have hbx : Blk (w.alloc (.cells #[.string key, .string who, .slice ha n hc, .int .i64 su, .int .i64 lo] 59)) w.heap.size 59 #[.string key, .string who, .slice ha n hc, .int .i64 su, .int .i64 lo] := Blk.new w _ _
  obtain ⟨W0, hW0⟩ : ∃ W, w.alloc (.cells #[.string key, .string who, .slice ha n hc, .int .i64 su, .int .i64 lo] 59) = W := ⟨_, rfl⟩
  have hsz0 : W0.heap.size = w.heap.size + 1 := by rw [← hW0]; simp
  rw [hW0] at hA h1' hbx
  have HA : Hid (Calls Try.prog 47 #[.slice ha n hc] W0.drew (fun e w2 => ∃ v, e = .returned v ∧ w2.ownsRow w.heap.size 9 1 v n (strsV hosts) ∧ Below w.heap.size w w2 ∧ w2.cell? ⟨w.heap.size, 1, none⟩ = some (.string who) ∧ w.heap.size ≤ w2.heap.size)) := by
    refine (cloneS_calls b ha n hc (strsV hosts) W0.drew (h1'.below (below_drewN (Below.refl _ _) 1)) (strsV_one _) (by omega)).mono ?_
    rintro e w2 ⟨v, rfl, ho, hbl⟩
    have hbl2 := below_call (below_drewN hA 1) hbl (Nat.le_refl _)
    exact ⟨v, rfl, own_base ho (by rw [show W0.drew.heap.size = W0.heap.size from rfl]; omega), hbl2, (Blk.below (w := W0.drew) hbx hbl).cell 1, hbl2.size⟩
  have HB : Hid (Calls Try.prog 47 #[.slice ha n hc] (W0.alloc (.cells #[.string who] 9)).drew (fun e w2 => ∃ v, e = .returned v ∧ w2.ownsRow w.heap.size 9 1 v n (strsV hosts) ∧ Below w.heap.size w w2 ∧ w.heap.size ≤ w2.heap.size ∧ ∀ j u, ([Value.string who])[j]? = some u → w2.cell? ((⟨w.heap.size + 1, 0, none⟩ : Addr).add j) = some u)) := by
    refine (cloneS_calls b ha n hc (strsV hosts) (W0.alloc (.cells #[.string who] 9)).drew ((h1'.below ((Below.refl _ _).alloc (Nat.le_refl _) _)).below (below_drewN (Below.refl _ _) 1)) (strsV_one _) (by omega)).mono ?_
    rintro e w2 ⟨v, rfl, ho, hbl⟩
    have hbl2 := below_call (below_drewN (hA.alloc (by omega) _) 1) hbl (Nat.le_refl _)
    refine ⟨v, rfl, own_base ho (by show w.heap.size ≤ (W0.alloc _).heap.size; simp; omega), hbl2, hbl2.size, fun j u hu => ?_⟩
    have hlb : Blk w2 W0.heap.size 9 #[.string who] := Blk.below (w := (W0.alloc (.cells #[.string who] 9)).drew) (Blk.new W0 _ _) hbl
    rw [hsz0] at hlb
    cases j with
    | zero =>
      simp only [List.getElem?_cons_zero, Option.some.injEq] at hu
      subst hu
      have := hlb.cell 0
      simpa [Addr.add] using this
    | succ j => simp at hu
  have hmx : n + 1 ≤ maxLen := by unfold maxLen; omega
  have hby : (n + 1) * 16 ≤ 140737488355328 := by omega
  have b1 := hbx.cell 1
  have b2 := hbx.cell 2
  clear h1 h1' hbx
  go_enter Try.func94, Try.ntmps94
  go_wp2_with fail
  clear hW0
  go_region_law (first
    | (go_simp; go_at_call 47; ((with_reducible refine HA.out.mono ?_); rintro e w2 ⟨v, rfl, hown2, hb2, hc2, hsz2⟩))
    | (go_simp; go_at_call 47; ((with_reducible refine HB.out.mono ?_); rintro e w2 ⟨v, rfl, hown2, hb2, hsz2, hnews2⟩))
    | (refine step_append_lies _ (by rfl) _ _ _ (by rfl) w.heap.size 9 i0 (.string ⟨#[]⟩) 1 16 Try.underlying26 hi hz0 hz1 hz2 rfl (by omega) v n (strsV hosts) (by rfl) (hown2.alloc _) ⟨w2.heap.size, 0, none⟩ 1 1 [.string who] (by rfl) (by rfl) (news_new _ _ _ _ rfl) (one1 rfl) (by omega) hmx hby (base1 hsz2 _) _ rfl ?_; intro g2 cap2 w3 hown3 hgrow3 hat3 hlt3)
    | (refine step_append_lies _ (by rfl) _ _ _ (by rfl) w.heap.size 9 i0 (.string ⟨#[]⟩) 1 16 Try.underlying26 hi hz0 hz1 hz2 rfl (by omega) v n (strsV hosts) (by rfl) hown2 ⟨w.heap.size + 1, 0, none⟩ 1 1 [.string who] (by rfl) (by rfl) hnews2 (one1 rfl) (by omega) hmx hby hsz2 _ rfl ?_; intro g2 cap2 w3 hown3 hgrow3 hat3 hlt3))
  all_goals
    have hb3 : Below w.heap.size w w3 := by first | exact (hb2.alloc hsz2 _).grown hgrow3 (base1 hsz2 _) (fun q hq => (hown2.lt q hq).1) | exact hb2.grown hgrow3 hsz2 (fun q hq => (hown2.lt q hq).1)
    clear hgrow3
    go_wp2_with fail
    go_ret
    exact ⟨_, rfl, own_strs hown3 (by simp [HN.out]) (by simp [strsV]), hb3⟩
end Go.Proofs.Ytejadhehmcifoaa

/-
  DERIVED: THE SHELF's CONTRACTS AT THIS DUMP, IN PLAIN WORDS (tools/lay-plain.mjs out of 'TryzShelf.lean', which tools/lay-shelf.mjs wrote): THE SAME DECLARATIONS UNDER THE SAME NAMES: 'import', 'namespace', 'open', 'def', 'theorem' AND NOTHING ELSE: no command of the shelf's: FOR A HAND-IN. Each laying: the table of numbers ('.._ren') and one theorem, a field a fact of the dump's own or the kernel's comparison; each contract: ONE APPLICATION.
-/
import Derived.Shelf.Strings.Builder1
import Derived.Shelf.Strings.Builder2
import Derived.Shelf.Strings.OnBuilder
import Derived.Shelf.LaysM
import Derived.Test.YtfhdknppldobiaaGreatDoorProg
import Derived.Test.YtfhdknppldobiaaGreatDoorZPsd
import Derived.Test.YtfhdknppldobiaaGreatDoorZTidPure
import Derived.Test.YtfhdknppldobiaaGreatDoorZRatMake4
import Derived.Test.YtfhdknppldobiaaGreatDoorZAtqP
import Derived.Test.YtfhdknppldobiaaGreatDoorZSrt
import Derived.Test.YtfhdknppldobiaaGreatDoorZAppAny
import Derived.Deep.DeepCutAuto
namespace Go.Proofs
open Go.Shelf
def Tryz.lays156_ren : Go.Shelf.Ren := ⟨fun | 156 => 153 | 165 => 189 | 166 => 119 | 169 => 121 | 240 => 167 | 241 => 234 | 276 => 218 | 277 => 257 | n => n, fun | 31 => 37 | 9 => 9 | 3 => 3 | 4 => 4 | 0 => 0 | 20 => 20 | 72 => 150 | 76 => 153 | 70 => 147 | 37 => 148 | 75 => 152 | 127 => 199 | 164 => 241 | 5 => 5 | 80 => 66 | n => n, fun | n => n⟩
theorem Tryz.lays156 : Go.Proofs.Lays.n156 Tryz.prog Tryz.lays156_ren := {
  mixed := by kernel_rfl
  f156 := Tryz.func153.trans (congrArg some (by kernel_rfl))
  f165 := Tryz.func189.trans (congrArg some (by kernel_rfl))
  f166 := Tryz.func119.trans (congrArg some (by kernel_rfl))
  f169 := Tryz.func121.trans (congrArg some (by kernel_rfl))
  f240 := Tryz.func167.trans (congrArg some (by kernel_rfl))
  f241 := Tryz.func234.trans (congrArg some (by kernel_rfl))
  f276 := Tryz.func218.trans (congrArg some (by kernel_rfl))
  f277 := Tryz.func257.trans (congrArg some (by kernel_rfl))
  t0 := Tryz.underlying0
  a0 := Tryz.isAgg0
  z0 := Tryz.sizeOf0
  v0 := Tryz.zeroValue0
  t3 := Tryz.underlying3
  a3 := Tryz.isAgg3
  z3 := Tryz.sizeOf3
  v3 := Tryz.zeroValue3
  t4 := Tryz.underlying4
  a4 := Tryz.isAgg4
  z4 := Tryz.sizeOf4
  v4 := Tryz.zeroValue4
  t9 := Tryz.underlying9
  a9 := Tryz.isAgg9
  z9 := Tryz.sizeOf9
  v9 := Tryz.zeroValue9
  t20 := Tryz.underlying20
  a20 := Tryz.isAgg20
  z20 := Tryz.sizeOf20
  v20 := Tryz.zeroValue20
  t31 := Tryz.underlying37
  a31 := Tryz.isAgg37
  z31 := Tryz.sizeOf37
  v31 := Tryz.zeroValue37
  t37 := Tryz.underlying148
  a37 := Tryz.isAgg148
  z37 := Tryz.sizeOf148
  v37 := Tryz.zeroValue148
  t70 := Tryz.underlying147
  a70 := Tryz.isAgg147
  z70 := Tryz.sizeOf147
  v70 := Tryz.zeroValue147
  t72 := Tryz.underlying150
  a72 := Tryz.isAgg150
  z72 := Tryz.sizeOf150
  v72 := Tryz.zeroValue150
  t75 := Tryz.underlying152
  a75 := Tryz.isAgg152
  z75 := Tryz.sizeOf152
  v75 := Tryz.zeroValue152
  t76 := Tryz.underlying153
  a76 := Tryz.isAgg153
  z76 := Tryz.sizeOf153
  v76 := Tryz.zeroValue153
  t127 := Tryz.underlying199
  a127 := Tryz.isAgg199
  z127 := Tryz.sizeOf199
  v127 := Tryz.zeroValue199
  t164 := Tryz.underlying241
  a164 := Tryz.isAgg241
  z164 := Tryz.sizeOf241
  v164 := Tryz.zeroValue241 }
theorem Tryz.Builder_Extra_156 : Builder.Extra Tryz.prog Tryz.lays156_ren := {
  sizeBuilder := by kernel_rfl
  liesBuilder := by kernel_rfl
  t5 := Tryz.underlying5
  a5 := Tryz.isAgg5
  z5 := Tryz.sizeOf5
  v5 := Tryz.zeroValue5
  infoByte := by kernel_rfl
  cellsByte := by kernel_rfl
  sizeByte := by kernel_rfl
  neB5 := by decide }
open Go.RowKit in
/-- No element: the empty string; the world is as it was. (Whatever the slice's address and capacity: a nil slice too.) (LAID: no walk: one application.) -/
theorem Tryz.strings_Join_none (a : Option Addr) (c : Nat) (sep : ByteArray) (w : World) :
    Calls Tryz.prog 153 #[.slice a 0 c, .string sep] w fun e w' => e = .returned (.string ⟨#[]⟩) ∧ w' = w := Any.strings_Join_none Tryz.lays156 Tryz.Builder_Extra_156 a c sep w
open Go.RowKit in
/-- strings.Join: "Join concatenates the elements of its first argument to create a single string. The separator string sep is placed between elements in the resulting string.": HOWEVER MANY ELEMENTS. Below the heap's end the world is as it was. (LAID: no walk: one application.) -/
theorem Tryz.strings_Join (bk o c : Nat) (xs : List ByteArray) (sep : ByteArray) (w : World) (hcells : ∀ (j : Nat) x, xs[j]? = some x → w.cell? ⟨bk, o + j, none⟩ = some (.string x)) (hbk : bk < w.heap.size) (hN : xs.length ≤ 140737488355328) (hcap : xs.length ≤ c) (hlen : (Lib.join (xs.map (·.data.toList)) sep.data.toList).length ≤ 140737488355328) :
    Calls Tryz.prog 153 #[.slice (some ⟨bk, o, none⟩) xs.length c, .string sep] w fun e w' => e = .returned (.string ⟨(Lib.join (xs.map (·.data.toList)) sep.data.toList).toArray⟩) ∧ Below w.heap.size w w' := Any.strings_Join Tryz.lays156 Tryz.Builder_Extra_156 bk o c xs sep w hcells hbk hN hcap hlen
end Go.Proofs
/-
  The reference's text of a tree, TidyOf by contracts. (Printed by gen_qtx.py.)
-/
namespace Go.Proofs.YtfhdknppldobiaaGreatDoor
open Go Go.RowKit
attribute [local go_sem ↓] Go.wp_at_zero Go.wp_at_succ

theorem emB (t : ByteArray) : (t.toList == ([] : List UInt8)) = decide (t = noB) ∧ t.toList.isEmpty = decide (t = noB) := by
  obtain ⟨h1, h2⟩ := em_tok t
  have e : decide (t.size = 0) = decide (t = noB) := decide_eq_decide.2 ⟨fun h => ba_nil h, fun h => by rw [h]; rfl⟩
  rw [← e]
  exact ⟨h1, h2⟩

end Go.Proofs.YtfhdknppldobiaaGreatDoor
/-
  The reference's atoms of a tree, AtomsOf by contracts. (Printed by gen_atq.py.)
-/
namespace Go.Proofs.YtfhdknppldobiaaGreatDoor
open Go Go.RowKit
attribute [local go_sem ↓] Go.wp_at_zero Go.wp_at_succ

def AtqS (ls : List BL) (w : World) (e : Ending) (w' : World) : Prop := ∃ A c, e = .returned (.slice A ls.length c) ∧ w'.ownsRow w.heap.size 9 1 (.slice A ls.length c) ls.length (svB ls) ∧ Below w.heap.size w w'
def AtqH (t : Nq) : Prop := ∀ (w : World) (A : Option Addr) (c : Nat) (P : Nat → Prop), NqV w P (A, c) t → (∀ k, P k → k < w.heap.size) →
  Calls Tryz.prog 188 #[.agg #[.string t.op, .string t.atom, .slice A t.kids.length c]] w (AtqS (atsQ t) w)
theorem svB_cells (ls : List BL) : ∀ u ∈ svB ls, u.oneCell' = true := by
  intro u hu
  unfold svB at hu
  obtain ⟨x, _, rfl⟩ := List.mem_map.1 hu
  rfl
theorem svB_app (a b : List BL) : svB (a ++ b) = svB a ++ svB b := by unfold svB; simp
theorem Sq.addRowQ {w W : World} {l : List Rsc} (h : Sq w W l) (cs : Array Value) (t : TypeId) (size n : Nat) (hs : cs.size = n * size) (hn : n ≤ maxLen) :
    Sq w (W.alloc (.cells cs t)) (rOwn w.heap.size t size (.slice (some ⟨W.heap.size, 0, none⟩) n n) n cs.toList :: l) :=
  h.new_ ((Below.refl _ _).alloc (Nat.le_refl _) _) (own_new W w.heap.size t size cs n h.size hs hn) (rOwn_ok _ _ _ _ _ _) (fun g hg => by
    have hg : some W.heap.size = some g := hg
    injection hg with hg
    subst hg
    exact ⟨Nat.le_refl _, by simp⟩)
theorem take_atsQ (ks : List Nq) (k : Nat) (hk : k < ks.length) : (ks.take (k + 1)).flatMap atsQ = (ks.take k).flatMap atsQ ++ atsQ ks[k] := by
  rw [List.take_succ_eq_append_getElem hk, List.flatMap_append]
  simp
theorem take_leQ (ks : List Nq) (k : Nat) : ((ks.take k).flatMap atsQ).length ≤ (ks.flatMap atsQ).length := by
  have e := congrArg List.length (congrArg (List.flatMap atsQ) (List.take_append_drop k ks))
  rw [List.flatMap_append, List.length_append] at e
  omega
set_option maxRecDepth 100000 in
set_option maxHeartbeats 4000000 in
theorem atq_step (op atom : ByteArray) (ks : List Nq) (hn : ks.length ≤ 100000) (hl : (ks.flatMap atsQ).length ≤ 100000) (IH : ∀ k ∈ ks, AtqH k) : AtqH (.node op atom ks) := by
  intro w A c P h hP
  obtain ⟨ps, rfl, h1, h3⟩ : ∃ ps : List Qn, ks = ps.map (·.2) ∧ w.ownsRow 0 139 3 (.slice A ps.length c) ps.length (ps.flatMap qnC) ∧ ∀ p ∈ ps, NqV w P p.1 p.2 := by
    cases h with
    | mk A c op atom ps h1 h2 h3 => exact ⟨ps, rfl, h1, h3⟩
  obtain ⟨j0, hj, hy0, hy1, hy2⟩ := info_parts info_str
  rw [List.length_map] at hn
  simp only [Nq.op, Nq.atom, Nq.kids, List.length_map]
  obtain ⟨n, hnn⟩ : ∃ n, ps.length = n := ⟨_, rfl⟩
  rw [hnn] at hn h1 ⊢
  have hQ := atsQ_eq op atom (ps.map (·.2))
  obtain ⟨TX, hTX⟩ : ∃ TX, atsQ (.node op atom (ps.map (·.2))) = TX := ⟨_, rfl⟩
  rw [hTX] at hQ ⊢
  obtain ⟨B, hB⟩ : ∃ B : List BL, (if op = noB then [atom.data.toList] else []) = B := ⟨_, rfl⟩
  rw [hB] at hQ
  have hBl : B.length ≤ 1 := by rw [← hB]; split <;> simp
  have HB := Lib.hid hB
  have HQ : Hid (TX = Lib.compact (srtL (B ++ (ps.map (·.2)).flatMap atsQ))) := Lib.hid hQ
  have HROW : Hid (0 < n → ∃ g, A = some ⟨g, 0, none⟩ ∧ ∀ k (hk : k < ps.length), w.cell? ⟨g, k * 3, none⟩ = some (.string ps[k].2.op) ∧ w.cell? ⟨g, k * 3 + 1, none⟩ = some (.string ps[k].2.atom) ∧ w.cell? ⟨g, k * 3 + 2, none⟩ = some (.slice ps[k].1.1 ps[k].2.kids.length ps[k].1.2)) := Lib.hid (fun h0 => by
    obtain ⟨g, c', hv, _, _⟩ := h1.form h0
    injection hv with hv1 _ hv3
    subst hv1 hv3
    exact ⟨g, rfl, fun k hk => ⟨own_cell qnC 3 qnC_len h1 k 0 hk (by omega) (by omega), own_cell qnC 3 qnC_len h1 k 1 hk (by omega) (by omega), own_cell qnC 3 qnC_len h1 k 2 hk (by omega) (by omega)⟩⟩)
  have HIH : Hid (∀ k (hk : k < ps.length) W, Below w.heap.size w W → Calls Tryz.prog 188 #[.agg #[.string ps[k].2.op, .string ps[k].2.atom, .slice ps[k].1.1 ps[k].2.kids.length ps[k].1.2]] W (AtqS (atsQ ps[k].2) W)) := Lib.hid (fun k hk W hW =>
    IH ps[k].2 (List.mem_map.2 ⟨ps[k], List.getElem_mem hk, rfl⟩) W _ _ P ((h3 _ (List.getElem_mem hk)).keep (fun q hq => hW.block q (hP q hq))) (fun q hq => Nat.lt_of_lt_of_le (hP q hq) hW.size))
  have HN := Lib.hid hnn
  have HL := Lib.hid hl
  have HSO := Lib.hid (fun W rs A n c ls h1 h2 => sortS_calls w W rs A n c ls h1 h2)
  have HCO := Lib.hid (fun W rs A n c ls h1 h2 => compS_calls w W rs A n c ls h1 h2)
  obtain ⟨eE0, eE1⟩ := emB op
  obtain ⟨bE, hbE⟩ : ∃ b, decide (op = noB) = b := ⟨_, rfl⟩
  rw [hbE] at eE0 eE1
  have HBE := Lib.hid hbE
  have hS1 := (Sq.start w).add #[.string op, .string atom, .slice A n c] 139
  have hS2 := hS1.addRowQ #[.string atom] 9 1 1 rfl (by decide)
  have hz1 : (w.alloc (.cells #[.string op, .string atom, .slice A n c] 139)).heap.size = w.heap.size + 1 := by simp
  rw [hz1] at hS2
  have hS3 := (hS1.alloc (.cells #[.string atom] 9)).nil w.heap.size 9 1
  clear h h1 h3 hP IH hnn hTX hQ hB hl hS1 hbE hz1
  go_enter Tryz.func188, Tryz.ntmps188
  go_upto_if 11 with (fail)
  go_cut [3] (fun s3 W => ∃ A3 c3, s3 = .slice A3 B.length c3 ∧ Sq w W [rOwn w.heap.size 9 1 (.slice A3 B.length c3) B.length (svB B), rBlk w.heap.size 139 #[.string op, .string atom, .slice A n c]])
  case first =>
    cases bE
    · have hb0 : B = [] := by rw [← HB.out, if_neg (of_decide_eq_false HBE.out)]
      subst hb0
      have e3 : ¬ op.toList = [] := fun h => by rw [h] at eE1; cases eE1
      have e4 : ¬ op = noB := of_decide_eq_false HBE.out
      clear hS2
      go_wp2_with fail
      go_meet
      exact ⟨none, 0, rfl, hS3⟩
    · have hb0 : B = [atom.data.toList] := by rw [← HB.out, if_pos (of_decide_eq_true HBE.out)]
      subst hb0
      have e5 : op = noB := of_decide_eq_true HBE.out
      subst e5
      clear hS3
      go_wp2_with fail
      go_meet
      exact ⟨_, 1, rfl, hS2⟩
  case rest =>
    obtain ⟨A3, c3, rfl, hS⟩ := hcut
    clear hS2 hS3 eE0 eE1
    have b2 : wc.cell? ⟨w.heap.size, 2, none⟩ = some (.slice A n c) := Blk.cell (hS.nth 1 rfl) 2
    go_wp2_with fail
    go_loopw [3, 15] (fun s3 i wr => ∃ (k : Nat) (lv : List BL) (A4 : Option Addr) (c4 : Nat), k ≤ n ∧ i = .int .i64 k ∧ s3 = .slice A4 lv.length c4 ∧ Hid (lv = B ++ ((ps.map (·.2)).take k).flatMap atsQ) ∧ Sq w wr [rOwn w.heap.size 9 1 (.slice A4 lv.length c4) lv.length (svB lv), rBlk w.heap.size 139 #[.string op, .string atom, .slice A n c]]) (fun _ i _ => n - (intOf i).toNat)
    case atStart => exact ⟨0, B, A3, c3, Nat.zero_le _, rfl, rfl, Lib.hid (by simp), hS⟩
    case round =>
      clear hS b2
      obtain ⟨k, lv, A4, c4, hk, rfl, rfl, HLV, hS⟩ := hrel
      obtain ⟨m, hm⟩ : ∃ m, lv.length = m := ⟨_, rfl⟩
      have HM := Lib.hid hm
      have hmb : m ≤ 100001 := by
        rw [← hm, HLV.out, List.length_append]
        have h1 := take_leQ (ps.map (·.2)) k
        have := HL.out
        omega
      rw [hm] at hS ⊢
      clear hm
      by_cases hlt : k < n
      · have hkp : k < ps.length := by rw [HN.out]; exact hlt
        obtain ⟨g, hA, hcs⟩ := HROW.out (by omega)
        subst hA
        obtain ⟨c0, c1, c2⟩ := hcs k hkp
        have d0 := below_cell hS.below c0
        have d1 := below_cell hS.below c1
        have d2 := below_cell hS.below c2
        have HC := Lib.hid (HIH.out k hkp)
        obtain ⟨⟨⟨A6, c6⟩, t6⟩, hp⟩ : ∃ p, ps[k] = p := ⟨_, rfl⟩
        rw [hp] at d0 d1 d2 HC
        simp only at d0 d1 d2 HC
        have hkm : k < (ps.map (·.2)).length := by rw [List.length_map]; exact hkp
        have HSN : Hid (((ps.map (·.2)).take (k + 1)).flatMap atsQ = ((ps.map (·.2)).take k).flatMap atsQ ++ atsQ t6) := Lib.hid (by
          rw [take_atsQ _ k hkm, List.getElem_map, hp])
        obtain ⟨x, hx⟩ : ∃ x, atsQ t6 = x := ⟨_, rfl⟩
        rw [hx] at HC HSN
        have hxb : m + x.length ≤ 100001 := by
          have h1 := take_leQ (ps.map (·.2)) (k + 1)
          rw [HSN.out, List.length_append] at h1
          have h2 := HL.out
          rw [← HM.out, HLV.out, List.length_append]
          omega
        obtain ⟨o6, ho6⟩ : ∃ o6, t6.op = o6 := ⟨_, rfl⟩
        obtain ⟨a6, ha6⟩ : ∃ a6, t6.atom = a6 := ⟨_, rfl⟩
        obtain ⟨l6, hl6⟩ : ∃ l6, t6.kids.length = l6 := ⟨_, rfl⟩
        rw [ho6, ha6, hl6] at HC
        rw [ho6] at d0
        rw [ha6] at d1
        rw [hl6] at d2
        have hk0 : (0 : Int) ≤ (k : Int) := by omega
        have hkn : (k : Int) < (n : Int) := by omega
        have hS1 := hS.alloc (.cells #[.string o6, .string a6, .slice A6 l6 c6] 139)
        have HC1 := Lib.hid (HC.out _ hS1.below)
        unfold AtqS at HC1
        obtain ⟨q, hq⟩ : ∃ q, x.length = q := ⟨_, rfl⟩
        rw [hq] at HC1 hxb
        have HXL := Lib.hid hq
        have hlt1 : w.heap.size < (wr.alloc (.cells #[.string o6, .string a6, .slice A6 l6 c6] 139)).heap.size := by have := hS.size; simp; omega
        clear hcs c0 c1 c2 hp hx ho6 ha6 hl6 HC hS hq
        go_wp2_with fail
        refine HC1.out.mono ?_
        rintro e w2 ⟨A7, c7, rfl, ho7, hb2⟩
        have hS2 := hS1.callB hb2
        have hrd : Rd w2 w.heap.size 1 (.slice A7 q c7) q (svB x) := Rd.own ho7 hlt1
        have hsz2 := hS2.size
        have HO : w2.ownsRow w.heap.size 9 1 (.slice A4 m c4) m (svB lv) := hS2.head
        clear hS1 d0 d1 d2 HC1 hb2 ho7 hlt1
        go_wp2_with (first
          | (at_builtin; refine wpList_app_rd _ rfl _ _ 37 rfl w.heap.size 9 j0 (.string ⟨#[]⟩) 1 16 Tryz.underlying37 hj hy0 hy1 hy2 rfl (by decide) _ _ _ rfl HO w.heap.size _ q c7 (svB x) rfl hrd (svB_cells _) (by unfold maxLen; omega) (by omega) hsz2 ?_; intro v' w8 hown' hgrow hblk; have hS8 := hS2.append hown' hgrow hblk; obtain ⟨A8, c8, hv8⟩ := own_form hown'; subst hv8; clear hown' hgrow hblk HO))
        go_roundw
        case rel => exact ⟨k + 1, lv ++ x, A8, c8, hlt, by go_num, by rw [List.length_append, HM.out, HXL.out], by rw [HSN.out, ← List.append_assoc, ← HLV.out]; exact Lib.hid rfl, by rw [List.length_append, HM.out, HXL.out, svB_app]; exact hS8⟩
        case measure => simp [intOf]; omega
      · obtain rfl : k = n := by omega
        have ht : (ps.map (·.2)).take k = ps.map (·.2) := List.take_of_length_le (by rw [List.length_map, HN.out]; exact Nat.le_refl _)
        rw [ht] at HLV
        have HS1 := Lib.hid (HSO.out wr _ A4 m c4 lv (by omega) hS)
        have HTT : Hid (TX = Lib.compact (srtL lv)) := Lib.hid (by rw [HQ.out, HLV.out])
        clear hS ht
        go_wp2_with fail
        refine HS1.out.mono ?_
        rintro e w3 ⟨rfl, hS3⟩
        have HS2 := Lib.hid (HCO.out w3 _ A4 m c4 (srtL lv) (by omega) hS3)
        clear hS3
        go_wp2_with fail
        refine HS2.out.mono ?_
        rintro e w4 ⟨rfl, hS4⟩
        go_wp2_with fail
        go_ret
        unfold AtqS
        rw [HTT.out]
        exact ⟨A4, c4, rfl, hS4.head, hS4.below⟩
theorem atq_calls {t : Nq} (h : QOk t) (hc : cntQ t ≤ 100000) : AtqH t := by
  induction h with
  | leaf a h => exact atq_step noB a [] (by simp) (by simp) (fun k hk => by cases hk)
  | not k h ih =>
    have e := cntQ_eq sNot noB [k]
    have hf := flat_lenQ atsQ [k] (fun x hx => by simp at hx; subst hx; exact atsQ_len h)
    simp only [List.map_cons, List.map_nil, List.sum_cons, List.sum_nil] at e hf
    exact atq_step sNot noB [k] (by simp) (by omega) (fun x hx => by simp at hx; subst hx; exact ih (by omega))
  | list op ks hop h2 h ih =>
    have e := cntQ_eq op noB ks
    have hf := flat_lenQ atsQ ks (fun k hk => atsQ_len (h k hk))
    have hkc : ∀ k ∈ ks, cntQ k ≤ 100000 := fun k hk => by have := mem_sumQ cntQ ks k hk; omega
    have hl := len_sumQ cntQ (fun k => cntQ_pos k) ks
    exact atq_step op noB ks (by omega) (by omega) (fun k hk => ih k hk (hkc k hk))
set_option maxRecDepth 100000 in
theorem atomsOf_calls (num : ByteArray → Int × Bool) (hnum : NumOk num) (hz : NumZ num) (s : ByteArray) (w : World) (hs : s.size ≤ 90000) (h0 : (parseE num s).2 = 0) :
    Calls Tryz.prog 149 #[.string s] w (AtqS (atsQ (flat (parseT num s).1)) w) := by
  obtain ⟨hok, hcn, l', hor⟩ := (check_parse num hnum s).2 h0
  have hc := cnt_flat hok
  have HP := Lib.hid (parsed_calls s (flat (parseT num s).1) l' (s.size + 1) w hs hor)
  have HX : Hid (AtqH (flat (parseT num s).1)) := Lib.hid (atq_calls (flat_qok hz hok) (by omega))
  obtain ⟨u, hu⟩ : ∃ u, flat (parseT num s).1 = u := ⟨_, rfl⟩
  rw [hu] at HP HX ⊢
  unfold AtqH at HX
  unfold PsdS at HP
  obtain ⟨x, hx⟩ : ∃ x, atsQ u = x := ⟨_, rfl⟩
  rw [hx] at HX ⊢
  clear hor hok hcn hc h0 hu hx
  go_enter Tryz.func149, Tryz.ntmps149
  go_wp2_with fail
  refine HP.out.mono ?_
  rintro e w2 ⟨A, c, P, rfl, hN, hP, hb2⟩
  have HC := Lib.hid (HX.out w2 A c P hN (fun k hk => (hP k hk).2))
  clear hN hP
  go_wp2_with fail
  refine HC.out.mono ?_
  rintro e w3 ⟨A3, c3, rfl, ho3, hb3⟩
  go_wp2_with fail
  go_ret
  exact ⟨A3, c3, rfl, own_base ho3 hb2.size, below_call hb2 hb3 (Nat.le_refl _)⟩
end Go.Proofs.YtfhdknppldobiaaGreatDoor
/-
  Whether the reference's tree holds: (node).truth by contract.
-/
namespace Go.Proofs.YtfhdknppldobiaaGreatDoor
open Go Go.RowKit
attribute [local go_sem ↓] Go.wp_at_zero Go.wp_at_succ

theorem NqV.row {w : World} {P : Nat → Prop} {A : Option Addr} {c : Nat} {op atom : ByteArray} {ks : List Nq} (h : NqV w P (A, c) (.node op atom ks)) :
    ∃ ps : List Qn, ks = ps.map (·.2) ∧ w.ownsRow 0 139 3 (.slice A ps.length c) ps.length (ps.flatMap qnC) ∧ ∀ p ∈ ps, NqV w P p.1 p.2 := by
  cases h with
  | mk A c op atom ps h1 h2 h3 => exact ⟨ps, rfl, h1, h3⟩
end Go.Proofs.YtfhdknppldobiaaGreatDoor

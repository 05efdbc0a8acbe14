/-
  marathon.MergeGifts by a contract.
-/
import Derived.Test.YtohhbkodfidfkaaGreatDoorZSrtGf
import Derived.Test.YtohhbkodfidfkaaGreatDoorZGft1
import Derived.Test.YtohhbkodfidfkaaGreatDoorZGft5
namespace Go.Proofs.YtohhbkodfidfkaaGreatDoor
open Go Go.RowKit
attribute [local go_sem ↓] Go.wp_at_zero Go.wp_at_succ

/-- what stands in the map: the gifts by their ids -/
def mapG (acc : List Gf) (id : ByteArray) : Option Value := (findG acc id).map gfV
theorem mapG_snoc (acc : List Gf) (x : Gf) (h : findG acc x.id = none) : upd (mapG acc) x.id (gfV x) = mapG (acc ++ [x]) := by
  funext id
  unfold upd mapG
  rw [findG_snoc acc x h]
  by_cases he : id = x.id
  · rw [if_pos he, if_pos he]; rfl
  · rw [if_neg he, if_neg he]
theorem zero_gf (w : World) : (zeroValue 61).run Tryz.prog w = .ok (.agg #[.string ⟨#[]⟩, .int .i64 0, .int .i64 0, .string ⟨#[]⟩, .string ⟨#[]⟩]) w := by kernel_rfl
theorem mapG_look {W : World} {g N : Nat} {acc : List Gf} (h : MapS W 9 g N (mapG acc)) {s : ByteArray} (hs : s.size ≤ 1000) :
    (Instr.lookup 117 (.map (some g)) (.string s) true).run Tryz.prog W = .ok (.tuple #[(mapG acc s).getD (.agg #[.string ⟨#[]⟩, .int .i64 0, .int .i64 0, .string ⟨#[]⟩, .string ⟨#[]⟩]), .bool (mapG acc s).isSome]) W :=
  h.lookOk Tryz.underlying9 Tryz.underlying117 (zero_gf W) (s := s) (by unfold maxLen; omega)
theorem mapG_put {w W : World} {l : List Rsc} {g N : Nat} {acc : List Gf} (hS : Sq w W (rMap 9 g N (mapG acc) :: l)) (hN : N ≤ 100000) (x : Gf) (hs : x.id.size ≤ 1000) (hf : findG acc x.id = none) :
    ∃ W', (Instr.mapUpdate 117 (.map (some g)) (.string x.id) (gfV x)).run Tryz.prog W = .ok () W' ∧ Sq w W' (rMap 9 g (N + 1) (mapG (acc ++ [x])) :: l) := by
  have h : MapS W 9 g N (mapG acc) := hS.head
  obtain ⟨W', h1, h2, h3⟩ := h.update Tryz.underlying9 Tryz.underlying117 (by unfold maxLen; omega) (s := x.id) (by unfold maxLen; omega) (gfV x)
  rw [mapG_snoc acc x hf] at h2
  exact ⟨W', h1, hS.mapSet h2 h3⟩

/-- what merging answers: what is wrong, or the gifts in their order -/
def MrgOut (w : World) (b : Nat) (E : Int) (r : Option (List Gf)) (e : Ending) (w' : World) : Prop :=
  ∃ A n c l, e = .returned (.tuple #[.slice A n c, .int .i64 E]) ∧ Rd w' b 5 (.slice A n c) n (l.flatMap gfC) ∧ Below w.heap.size w w' ∧ (E = 0 → ∃ acc, r = some acc ∧ l.Perm acc ∧ SrtG l) ∧ (E ≠ 0 → l = [])
theorem MrgOut.bad {w w' : World} {b : Nat} {E : Int} {r : Option (List Gf)} (hE : E ≠ 0) (hb : Below w.heap.size w w') : MrgOut w b E r (.returned (.tuple #[.slice none 0 0, .int .i64 E])) w' :=
  ⟨none, 0, 0, [], rfl, Rd.nil _ _ _, hb, fun h => absurd h hE, fun _ => rfl⟩
def mergeE (gs hs : List Gf) : Int := if firstE [giftsF keysT gs, giftsF keysT hs] = 0 then mrgE (mrgF [] (gs ++ hs)) else firstE [giftsF keysT gs, giftsF keysT hs]
theorem gf_list {w : World} {b n c : Nat} {A : Option Addr} {gs : List Gf} (h : Rd w b 5 (.slice A n c) n (gs.flatMap gfC)) : gs.length = n := by
  have := h.len
  rw [flat_len gfC 5 gfC_len] at this
  omega

set_option maxRecDepth 100000 in
set_option maxHeartbeats 4000000 in
theorem mergeGifts_calls (b : Nat) (A1 A2 : Option Addr) (n1 c1 n2 c2 : Nat) (gs hs : List Gf) (w : World) (h1 : Rd w b 5 (.slice A1 n1 c1) n1 (gs.flatMap gfC)) (h2 : Rd w b 5 (.slice A2 n2 c2) n2 (hs.flatMap gfC))
    (hgs : ∀ x ∈ gs, GfOk x) (hhs : ∀ x ∈ hs, GfOk x) (hn1 : n1 ≤ 10000) (hn2 : n2 ≤ 10000) (hbw : b < w.heap.size) :
    Calls Tryz.prog 22 #[.slice A1 n1 c1, .slice A2 n2 c2] w (MrgOut w b (mergeE gs hs) (mrgF [] (gs ++ hs))) := by
  obtain ⟨i0, hi, hz0, hz1, hz2⟩ := info_parts info_gf
  obtain ⟨e1, he1⟩ : ∃ e, giftsF keysT gs = e := ⟨_, rfl⟩
  obtain ⟨e2, he2⟩ : ∃ e, giftsF keysT hs = e := ⟨_, rfl⟩
  obtain ⟨E, hE⟩ : ∃ E, firstE [e1, e2] = E := ⟨_, rfl⟩
  obtain ⟨xs, hxs⟩ : ∃ xs, gs ++ hs = xs := ⟨_, rfl⟩
  have hlx : xs.length = n1 + n2 := by rw [← hxs, List.length_append, gf_list h1, gf_list h2]
  have hok : ∀ x ∈ xs, GfOk x := by
    intro x hx
    rw [← hxs] at hx
    rcases List.mem_append.1 hx with hx | hx
    · exact hgs x hx
    · exact hhs x hx
  have HME := Lib.hid (show mergeE gs hs = if E = 0 then mrgE (mrgF [] xs) else E by unfold mergeE; rw [he1, he2, hE, hxs])
  have HK1 := Lib.hid (keysFault_calls b A1 n1 c1 gs w h1 hgs)
  rw [he1] at HK1
  have HK2 : Hid (∀ W, Below w.heap.size w W → Calls Tryz.prog 65 #[.slice A2 n2 c2] W (BRet (.int .i64 e2) W)) := fun W hW => by
    have := keysFault_calls b A2 n2 c2 hs W (h2.below hW) hhs
    rw [he2] at this
    exact this
  have HFI : Hid (∀ W : World, Calls Tryz.prog 64 #[.slice (some ⟨W.heap.size, 0, none⟩) 2 2] (W.alloc (.cells #[.int .i64 e1, .int .i64 e2] 30)) (QRet (.int .i64 E) (W.alloc (.cells #[.int .i64 e1, .int .i64 e2] 30)))) := fun W => by
    have hr : Rd (W.alloc (.cells #[.int .i64 e1, .int .i64 e2] 30)) (W.heap.size + 5) 1 (.slice (some ⟨W.heap.size, 0, none⟩) 2 2) 2 ([e1, e2].map (Value.int .i64)) := Rd.lit W _ 1 2 #[.int .i64 e1, .int .i64 e2] _ (by omega) (by decide) rfl
    have := first_calls (W.heap.size + 5) _ 2 2 [e1, e2] _ hr
    rw [hE] at this
    exact this
  have HCC : Hid (∀ (W : World) (G : Nat), Below w.heap.size w W → W.heap.size = G → Calls Tryz.prog 66 #[.slice (some ⟨G, 0, none⟩) 2 2] (W.alloc (.cells #[.slice A1 n1 c1, .slice A2 n2 c2] 55)) (fun e w' => ∃ v, e = .returned v ∧ w'.ownsRow (W.alloc (.cells #[.slice A1 n1 c1, .slice A2 n2 c2] 55)).heap.size 61 5 v (n1 + n2) (xs.flatMap gfC) ∧ Below (W.alloc (.cells #[.slice A1 n1 c1, .slice A2 n2 c2] 55)).heap.size (W.alloc (.cells #[.slice A1 n1 c1, .slice A2 n2 c2] 55)) w')) := fun W G hW hG => by
    subst hG
    have hW2 := hW.alloc hW.size (.cells #[.slice A1 n1 c1, .slice A2 n2 c2] 55)
    have := concatGf_calls b W.heap.size A1 A2 n1 c1 n2 c2 (gs.flatMap gfC) (hs.flatMap gfC) _ (Blk.new W _ _) (h1.below hW2) (h2.below hW2) (gfC_one gs) (gfC_one hs) hn1 hn2
    rw [← List.flatMap_append, hxs] at this
    exact this
  have HSORT := Lib.hid (fun (W : World) (g n c : Nat) (l : List Gf) (h1 : ∀ x ∈ l, GfOk x) (h2 : n ≤ 100000) h3 => sortP_calls w W g n c l h1 h2 h3)
  have HLX := Lib.hid hlx
  have HOK := Lib.hid hok
  obtain ⟨N, hN⟩ : ∃ N, n1 + n2 = N := ⟨_, rfl⟩
  have hNb : N ≤ 20000 := by omega
  rw [hN] at HCC HLX
  rw [hxs]
  obtain ⟨R, hR⟩ : ∃ R, mrgF [] xs = R := ⟨_, rfl⟩
  have HR := Lib.hid hR
  rw [hR] at HME ⊢
  clear hR he1 he2 hE hxs hlx hok h1 h2 hgs hhs hN
  by_cases hz : E = 0
  · subst hz
    have HM := Lib.hid (show mergeE gs hs = mrgE R from HME.out.trans (if_pos rfl))
    clear HME
    have hmm := @run_makeMap Tryz.prog
    rw [HM.out]
    go_enter Tryz.func22, Tryz.ntmps22
    go_wp2_with fail
    refine HK1.out.mono ?_
    rintro e w1 ⟨rfl, hb1⟩
    go_wp2_with fail
    refine (HK2.out _ hb1).mono ?_
    rintro e w2 ⟨rfl, hb2⟩
    have hb3 := below_call hb1 hb2 (Nat.le_refl _)
    clear hb1 hb2
    go_wp2_with fail
    refine (HFI.out _).mono ?_
    rintro e w3 ⟨rfl, nq, rfl⟩
    have hS3 : Sq w ((w2.alloc (.cells #[.int .i64 e1, .int .i64 e2] 30)).drewN nq) [] := (((Sq.start w).callB hb3).alloc _).drewN nq
    obtain ⟨W3, hW3⟩ : ∃ W, (w2.alloc (.cells #[.int .i64 e1, .int .i64 e2] 30)).drewN nq = W := ⟨_, rfl⟩
    rw [hW3] at hS3 ⊢
    clear hW3 hb3
    go_wp2_with fail
    clear hmm
    have hS4 := hS3.addMap 9
    obtain ⟨m, hm⟩ : ∃ m, W3.heap.size = m := ⟨_, rfl⟩
    obtain ⟨W4, hW4⟩ : ∃ W, W3.alloc (.map #[] 0) = W := ⟨_, rfl⟩
    rw [hW4] at hS4 ⊢
    have hWm : W4.heap.size = m + 1 := by rw [← hW4]; simp [hm]
    have HC4 := Lib.hid (HCC.out _ (m + 1) hS4.below hWm)
    rw [hm] at hS4 ⊢
    clear hWm
    with_reducible refine HC4.out.mono ?_
    rintro e w5 ⟨V, rfl, hown, hb5⟩
    have hS5 := (hS4.alloc (.cells #[.slice A1 n1 c1, .slice A2 n2 c2] 55)).ownB hb5 hown
    obtain ⟨VA, Vc, rfl⟩ := own_form hown
    have hcap := own_cap hown
    have hM0 : (fun _ => none : ByteArray → Option Value) = mapG [] := rfl
    rw [hM0] at hS5
    have hS6 : Sq w w5 [rOwn w.heap.size 61 5 (.slice none 0 0) 0 [], rMap 9 m 0 (mapG []), rOwn w.heap.size 61 5 (.slice VA N Vc) N (xs.flatMap gfC)] := (hS5.front 1 rfl rfl).nil _ _ _
    have H0 : Hid (mrgF [] (xs.take 0) = some []) := Lib.hid rfl
    clear hM0 hS5 hown hb5 hS4 hS3 hW4 hm
    go_wp2_with fail
    go_loopw [8, 28] (fun s i wr => ∃ (k : Nat) (acc : List Gf), k ≤ N ∧ i = .int .i64 k ∧ acc.length ≤ k ∧ Hid (mrgF [] (xs.take k) = some acc) ∧ Sq w wr [rOwn w.heap.size 61 5 s acc.length (acc.flatMap gfC), rMap 9 m acc.length (mapG acc), rOwn w.heap.size 61 5 (.slice VA N Vc) N (xs.flatMap gfC)]) (fun _ i _ => N - (intOf i).toNat)
    case atStart => exact ⟨0, [], by omega, rfl, Nat.le_refl _, H0, hS6⟩
    case round =>
      clear hS6 H0
      obtain ⟨k, acc, hk, rfl, hak, HA, hS⟩ := hrel
      by_cases hlt : k < N
      · have hkx : k < xs.length := by rw [HLX.out]; exact hlt
        have hV : wr.ownsRow w.heap.size 61 5 (.slice VA N Vc) N (xs.flatMap gfC) := hS.nth 2 rfl
        obtain ⟨g, hg⟩ : ∃ g, VA = some ⟨g, 0, none⟩ := by
          rcases hV.2 with ⟨_, h0⟩ | ⟨g, cap, cur, he, _⟩
          · omega
          · injection he with he _ _
            exact ⟨g, he⟩
        subst hg
        have c0 := own_cell gfC 5 gfC_len hV k 0 hkx hlt (by omega)
        have c1 := own_cell gfC 5 gfC_len hV k 1 hkx hlt (by omega)
        have c2 := own_cell gfC 5 gfC_len hV k 2 hkx hlt (by omega)
        have c3 := own_cell gfC 5 gfC_len hV k 3 hkx hlt (by omega)
        have c4 := own_cell gfC 5 gfC_len hV k 4 hkx hlt (by omega)
        have hst := mrgF_step hkx HA.out
        have hokx := HOK.out _ (List.getElem_mem hkx)
        obtain ⟨x, hx⟩ : ∃ x, xs[k] = x := ⟨_, rfl⟩
        rw [hx] at c0 c1 c2 c3 c4 hst hokx
        have hsz : x.id.size ≤ 1000 := hokx.hi
        obtain ⟨xi, xa, xc, xb, xo⟩ := x
        simp only at hsz
        replace c0 : wr.cell? ⟨g, k * 5, none⟩ = some (.string xi) := c0
        replace c1 : wr.cell? ⟨g, k * 5 + 1, none⟩ = some (.int .i64 xa) := c1
        replace c2 : wr.cell? ⟨g, k * 5 + 2, none⟩ = some (.int .i64 xc) := c2
        replace c3 : wr.cell? ⟨g, k * 5 + 3, none⟩ = some (.string xb) := c3
        replace c4 : wr.cell? ⟨g, k * 5 + 4, none⟩ = some (.string xo) := c4
        have hSa := hS.add #[.string xi, .int .i64 xa, .int .i64 xc, .string xb, .string xo] 61
        obtain ⟨gx, hgx⟩ : ∃ gx, wr.heap.size = gx := ⟨_, rfl⟩
        obtain ⟨wa, hwa⟩ : ∃ wa, wr.alloc (.cells #[.string xi, .int .i64 xa, .int .i64 xc, .string xb, .string xo] 61) = wa := ⟨_, rfl⟩
        have hza : wa.heap.size = gx + 1 := by rw [← hwa]; simp [hgx]
        rw [hwa, hgx] at hSa
        obtain ⟨y0, y1, y2, y3, y4⟩ := blk5 (show Blk wa gx 61 #[.string xi, .int .i64 xa, .int .i64 xc, .string xb, .string xo] from hSa.nth 0 rfl)
        have hlk := mapG_look (show MapS wa 9 m acc.length (mapG acc) from hSa.nth 2 rfl) hsz
        have HX := Lib.hid hx
        clear hV hx hS hokx
        cases hf : findG acc xi with
        | none =>
          have hmg : mapG acc xi = none := by unfold mapG; rw [hf]; rfl
          rw [hmg] at hlk
          have HST : Hid (mrgF [] (xs.take (k + 1)) = some (acc ++ [⟨xi, xa, xc, xb, xo⟩])) := Lib.hid (by rw [hst]; unfold mrgG; rw [hf])
          have hSb := (hSa.add #[.string ⟨#[]⟩, .int .i64 0, .int .i64 0, .string ⟨#[]⟩, .string ⟨#[]⟩] 61).front 3 rfl rfl
          rw [hza] at hSb
          obtain ⟨w6, hput, hS6⟩ := mapG_put hSb (by omega) ⟨xi, xa, xc, xb, xo⟩ hsz hf
          replace hput : (Instr.mapUpdate 117 (.map (some m)) (.string xi) (.agg #[.string xi, .int .i64 xa, .int .i64 xc, .string xb, .string xo])).run Tryz.prog (wa.alloc (.cells #[.string ⟨#[]⟩, .int .i64 0, .int .i64 0, .string ⟨#[]⟩, .string ⟨#[]⟩] 61)) = .ok () w6 := hput
          obtain ⟨q0, q1, q2, q3, q4⟩ := blk5 (show Blk w6 gx 61 #[.string xi, .int .i64 xa, .int .i64 xc, .string xb, .string xo] from hS6.nth 2 rfl)
          have hS7 := (hS6.add #[.string xi, .int .i64 xa, .int .i64 xc, .string xb, .string xo] 61).front 4 rfl rfl
          have hown : (w6.alloc (.cells #[.string xi, .int .i64 xa, .int .i64 xc, .string xb, .string xo] 61)).ownsRow w.heap.size 61 5 u8 acc.length (acc.flatMap gfC) := hS7.head
          have hs6 := hS6.size
          clear hmg hf hst hSb hS6 hSa
          go_wp2_with (first
            | (at_builtin; go_loud (refine wpList_append_own_at _ rfl (.tmp 46) (.tmp 48) 55 rfl w.heap.size 61 i0 (.agg #[.string ⟨#[]⟩, .int .i64 0, .int .i64 0, .string ⟨#[]⟩, .string ⟨#[]⟩]) 5 64 Tryz.underlying55 hi hz0 hz1 hz2 rfl (by decide) u8 _ _ rfl hown ⟨w6.heap.size, 0, none⟩ 1 1 [.string xi, .int .i64 xa, .int .i64 xc, .string xb, .string xo] rfl rfl (World.news_of_block (heap_alloc_new _ _)) (by simp [Value.oneCell']) (by unfold maxLen; omega) (by omega) (by simp; omega) ?_); intro v' w7 hown' hgrow hnil hat))
          have hS8 := (((hS7.append hown' hgrow hat).drop 1 rfl rfl).drop 2 rfl rfl).drop 2 rfl rfl
          have e1 : acc.length + 1 = (acc ++ [(⟨xi, xa, xc, xb, xo⟩ : Gf)]).length := by simp
          have e2 : acc.flatMap gfC ++ [.string xi, .int .i64 xa, .int .i64 xc, .string xb, .string xo] = (acc ++ [(⟨xi, xa, xc, xb, xo⟩ : Gf)]).flatMap gfC := by simp [gfC]
          rw [e1, e2] at hS8
          go_roundw
          case rel => exact ⟨k + 1, _, by omega, by go_num, by simp; omega, HST, hS8⟩
          case measure => simp [intOf]; omega
        | some o =>
          have hid := findG_id hf
          have hmg : mapG acc xi = some (gfV o) := by unfold mapG; rw [hf]; rfl
          rw [hmg] at hlk
          have HST0 : Hid (mrgF [] (xs.take (k + 1)) = if sameGf o ⟨xi, xa, xc, xb, xo⟩ = true then some acc else none) := Lib.hid (by rw [hst]; unfold mrgG; rw [hf])
          obtain ⟨oi, oa, oc, ob, oo⟩ := o
          simp only at hid
          subst hid
          replace hlk : (Instr.lookup 117 (.map (some m)) (.string oi) true).run Tryz.prog wa = .ok (.tuple #[.agg #[.string oi, .int .i64 oa, .int .i64 oc, .string ob, .string oo], .bool true]) wa := hlk
          have hSb := (hSa.add #[.string oi, .int .i64 oa, .int .i64 oc, .string ob, .string oo] 61).tail.tail
          have hfin : ∀ o : Obj, Below w.heap.size w (wa.alloc o) := fun o => hSa.below.alloc hSa.size o
          clear hmg hf hst hSa
          cases hsm : sameGf ⟨oi, oa, oc, ob, oo⟩ ⟨oi, xa, xc, xb, xo⟩
          · have HNE : Hid (¬ (oa = xa ∧ oc = xc ∧ ob.toList = xb.toList ∧ oo.toList = xo.toList)) := Lib.hid (fun h => by
              have h2 : sameGf ⟨oi, oa, oc, ob, oo⟩ ⟨oi, xa, xc, xb, xo⟩ = true := by
                unfold sameGf
                simp only [Bool.and_eq_true, decide_eq_true_eq, eqS_self, true_and]
                exact ⟨h.1, h.2.1, by unfold eqS; rw [h.2.2.1]; simp, by unfold eqS; rw [h.2.2.2]; simp⟩
              rw [hsm] at h2
              cases h2)
            have HRN := Lib.hid (HR.out.symm.trans (mrgF_no (HST0.out.trans (if_neg (by rw [hsm]; decide)))))
            clear hsm hSb HST0
            go_wp2_with fail
            all_goals first
              | (exact absurd (And.intro (by assumption) (And.intro (by assumption) (And.intro (by assumption) (by assumption)))) HNE.out)
              | (have hRN := HRN.out; subst hRN; refine bodyPost_ret (v := .tuple #[.slice none 0 0, .int .i64 13]) (by simp [results, Tryz.results22, go_sem]) rfl ?_; exact MrgOut.bad (E := 13) (by decide) (hfin _))
          · have he := (sameGf_iff _ _).1 hsm
            injection he with _ he1 he2 he3 he4
            subst he1 he2 he3 he4
            have HST := Lib.hid (HST0.out.trans (if_pos hsm))
            clear hsm HST0
            go_wp2_with fail
            go_roundw
            case rel => exact ⟨k + 1, acc, by omega, by go_num, by omega, HST, hSb⟩
            case measure => simp [intOf]; omega
      · obtain rfl : k = N := by omega
        have hall : mrgF [] xs = some acc := by
          have := HA.out
          rw [List.take_of_length_le (by rw [HLX.out]; exact Nat.le_refl _)] at this
          exact this
        have hRa := HR.out.symm.trans hall
        subst hRa
        have HU := Lib.hid (mrgF_mem xs [] acc hall)
        have hoka : ∀ x ∈ acc, GfOk x := fun x hx => by
          rcases HU.out.1 x hx with h | h
          · cases h
          · exact HOK.out x h
        have hown : wr.ownsRow w.heap.size 61 5 u8 acc.length (acc.flatMap gfC) := hS.head
        have hS1 := (hS.drop 1 rfl rfl).drop 1 rfl rfl
        have HOKA := Lib.hid hoka
        have hfin := hS.below
        have HFI0 := Lib.hid hown.2
        clear hall hoka hS
        by_cases hbig : 2000 < acc.length
        · have HE2 := Lib.hid (show mrgE (some acc) = 2 from if_pos hbig)
          obtain ⟨uA, uc, rfl⟩ := own_form hown
          clear HFI0 hS1 hown
          go_wp2_with fail
          refine bodyPost_ret (v := .tuple #[.slice none 0 0, .int .i64 2]) (by simp [results, Tryz.results22, go_sem]) rfl (by rw [HE2.out]; exact MrgOut.bad (E := 2) (by decide) hfin)
        · have HE2 := Lib.hid (show mrgE (some acc) = 0 from if_neg hbig)
          rcases HFI0.out with ⟨rfl, h0⟩ | ⟨g, cap, cur, rfl, hgw, _⟩
          · have ha0 : acc = [] := List.eq_nil_of_length_eq_zero h0
            subst ha0
            clear HE2 HFI0 hS1 hown h0 HU HA HOKA hbig
            go_wp2_with fail
            refine (sort_nil _ _ _ _).mono ?_
            rintro e w6 ⟨rfl, rfl⟩
            go_wp2_with fail
            refine bodyPost_ret (v := .tuple #[.slice none 0 0, .int .i64 0]) (by simp [results, Tryz.results22, go_sem]) rfl ?_
            exact ⟨none, 0, 0, [], rfl, Rd.nil _ _ _, hfin, fun _ => ⟨[], rfl, List.Perm.refl _, List.Pairwise.nil⟩, fun _ => rfl⟩
          · have HSO := Lib.hid (HSORT.out wr g acc.length cap acc HOKA.out (by omega) hS1)
            have hcap2 := own_cap hown
            unfold maxLen at hcap2
            clear HFI0 hS1 hown HU HA HOKA
            go_wp2_with fail
            refine HSO.out.mono ?_
            rintro e w6 ⟨rfl, l, hp, hs, hS6⟩
            have HP := Lib.hid hp
            have HSS := Lib.hid hs
            have hrd := Rd.own (b := b) hS6.head hbw
            have hfin2 := hS6.below
            clear hp hs hS6
            go_wp2_with fail
            refine bodyPost_ret (v := .tuple #[.slice (some ⟨g, 0, none⟩) acc.length cap, .int .i64 0]) (by simp [results, Tryz.results22, go_sem]) rfl ?_
            rw [HE2.out]
            exact ⟨_, _, _, l, rfl, hrd, hfin2, fun _ => ⟨acc, rfl, HP.out, HSS.out⟩, fun h => absurd rfl h⟩
  · have HM := Lib.hid (show mergeE gs hs = E from HME.out.trans (if_neg hz))
    have hz' : (E != 0) = true := by rw [bne_iff_ne]; exact hz
    clear HME
    rw [HM.out]
    go_enter Tryz.func22, Tryz.ntmps22
    go_wp2_with fail
    refine HK1.out.mono ?_
    rintro e w1 ⟨rfl, hb1⟩
    go_wp2_with fail
    refine (HK2.out _ hb1).mono ?_
    rintro e w2 ⟨rfl, hb2⟩
    have hb3 := below_call hb1 hb2 (Nat.le_refl _)
    clear hb1 hb2
    go_wp2_with fail
    refine (HFI.out _).mono ?_
    rintro e w3 ⟨rfl, nq, rfl⟩
    go_wp2_with fail
    have hfin := below_drewN (hb3.alloc hb3.size (.cells #[.int .i64 e1, .int .i64 e2] 30)) nq
    refine bodyPost_ret (v := .tuple #[.slice none 0 0, .int .i64 E]) (by simp [results, Tryz.results22, go_sem]) rfl (MrgOut.bad hz hfin)
end Go.Proofs.YtohhbkodfidfkaaGreatDoor

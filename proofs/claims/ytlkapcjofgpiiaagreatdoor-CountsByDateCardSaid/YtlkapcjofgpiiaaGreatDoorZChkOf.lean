/-
  The reference's CheckOf by a contract. (Printed by gen_chkof.py.)
-/
import Derived.Test.YtlkapcjofgpiiaaGreatDoorZClk
import Derived.Test.YtlkapcjofgpiiaaGreatDoorZOwnSet
import Derived.Deep.CutBlock
namespace Go.Proofs.YtlkapcjofgpiiaaGreatDoor
open Go Go.RowKit
attribute [local go_sem ↓] Go.wp_at_zero Go.wp_at_succ

def wiB (b : Bool) : Value := .string (if b = true then sOpen else sNot)
/-- what is open, as the reference holds it: the last one at the end -/
def wiV (st : List Bool) : List Value := st.reverse.map wiB
theorem wiV_len (st : List Bool) : (wiV st).length = st.length := by unfold wiV; simp
theorem wiV_cons (b : Bool) (st : List Bool) : wiV (b :: st) = wiV st ++ [wiB b] := by unfold wiV; simp
theorem wiV_tail (b : Bool) (st : List Bool) : (wiV (b :: st)).take (st.length * 1) = wiV st := by
  rw [wiV_cons, Nat.mul_one, ← wiV_len st, List.take_left']
  rfl
theorem wiV_last (b : Bool) (st : List Bool) : (wiV (b :: st))[st.length]? = some (wiB b) := by
  rw [wiV_cons, List.getElem?_append_right (by rw [wiV_len]; exact Nat.le_refl _), wiV_len, Nat.sub_self]
  rfl
/-- how long a slice is -/
def lenV : Value → Nat
  | .slice _ n _ => n
  | _ => 0
theorem em_tok (t : ByteArray) : (t.toList == ([] : List UInt8)) = decide (t.size = 0) ∧ t.toList.isEmpty = decide (t.size = 0) := by
  have e0 : (t.toList == ([] : List UInt8)) = decide (t.size = 0) := by
    rw [Lib.toList_data]
    by_cases h : t.size = 0
    · rw [ba_nil h]; rfl
    · rw [decide_eq_false h]
      have : t.data.toList ≠ [] := fun e => h (by have := congrArg List.length e; simpa using this)
      simpa using this
  exact ⟨e0, by rw [← e0]; cases t.toList <;> rfl⟩
theorem fit_nx (num : ByteArray → Int × Bool) (want : Nat) (t : ByteArray) (o : Nat) : (fitF num want t o).2 ≤ 6 := by
  unfold fitF
  split
  · split
    · exact Nat.zero_le _
    · split
      · show 1 ≤ 6; decide
      · split
        · show 2 ≤ 6; decide
        · split
          · show 5 ≤ 6; decide
          · show 3 ≤ 6; decide
  · split
    · split
      · exact Nat.zero_le _
      · split
        · show 1 ≤ 6; decide
        · show 1 ≤ 6; decide
    · split
      · show 1 ≤ 6; decide
      · split
        · show 4 ≤ 6; decide
        · split
          · show 1 ≤ 6; decide
          · split
            · show 6 ≤ 6; decide
            · show 1 ≤ 6; decide
theorem popN_count : ∀ (st : List Bool), (popN st).count true = st.count true
  | [] => rfl
  | true :: _ => rfl
  | false :: st => by
    rw [popN, popN_count st]
    simp
theorem popN_top : ∀ (st : List Bool), popN (popN st) = popN st
  | [] => rfl
  | true :: _ => rfl
  | false :: st => by rw [popN]; exact popN_top st
theorem popN_len : ∀ (st : List Bool), (popN st).length ≤ st.length
  | [] => Nat.le_refl _
  | true :: _ => Nat.le_refl _
  | false :: st => by
    rw [popN, List.length_cons]
    have := popN_len st
    omega
/-- a mark that shuts fits only where one is open, and nothing lies above it -/
theorem fit_shut {num : ByteArray → Int × Bool} (hnum : NumOk num) {want : Nat} {st : List Bool} (hst : want = 1 → popN st = st) (h : (fitF num want sShut (st.count true)).1 = true) : ∃ st', st = true :: st' := by
  have hw : want = 1 := by
    unfold fitF at h
    split at h
    · rw [if_neg (by decide), if_neg (by decide), if_neg (by decide), if_neg (by decide)] at h
      exact absurd h (by decide +kernel)
    · split at h
      · assumption
      · split at h
        · exact absurd h (by decide +kernel)
        · split at h
          · exact absurd h (by decide)
          · split at h
            · exact absurd h (by decide +kernel)
            · split at h
              · exact absurd h (by decide)
              · rw [Bool.and_eq_true] at h
                exact absurd rfl (hnum _ h.1).2.2
  have hp := hst hw
  subst hw
  unfold fitF at h
  rw [if_neg (by decide), if_pos rfl, if_neg (by decide), if_pos rfl] at h
  have h := of_decide_eq_true h
  cases st with
  | nil => exact absurd h (by decide)
  | cons b st =>
    cases b
    · exfalso
      rw [popN] at hp
      have h1 := congrArg List.length hp
      have h2 := popN_len st
      rw [List.length_cons] at h1
      omega
    · exact ⟨st, rfl⟩
theorem chk_step (num : ByteArray → Int × Bool) (n want : Nat) (st : List Bool) (deep : Int) (t : Tk) (l : List Tk) :
    chkF num n want st deep (t :: l) = if (fitF num want t.1 (st.count true)).1 = false ∨ (t.1.size = 0 ∧ t.2 < n) then ((t.2 : Int), 9)
      else chkF num n (fitF num want t.1 (st.count true)).2 (if (fitF num want t.1 (st.count true)).2 = 1 then popN (pushF want t.1 st) else pushF want t.1 st) (deepF want t.1 t.2 st deep) l := by
  rw [chkF]
theorem toks_sz (s : ByteArray) : ∀ (k i : Nat), s.size - i ≤ k → i ≤ s.size → ∀ t ∈ toks s i, t.1.size ≤ s.size ∧ t.2 ≤ s.size
  | k, i, hk, hi, t, ht => by
    rw [toks] at ht
    split at ht
    · rename_i hlt
      obtain ⟨k', rfl⟩ : ∃ k', k = k' + 1 := ⟨k - 1, by omega⟩
      split at ht
      · exact toks_sz s k' (i + 1) (by omega) (by omega) t ht
      · split at ht
        · rcases List.mem_cons.1 ht with rfl | ht
          · exact ⟨by rw [ByteArray.size_extract]; omega, hi⟩
          · exact toks_sz s k' (i + 1) (by omega) (by omega) t ht
        · split at ht
          · rename_i hw
            rcases List.mem_cons.1 ht with rfl | ht
            · have := span_le wordB s i hi
              exact ⟨by rw [ByteArray.size_extract]; omega, hi⟩
            · have hg := span_gt wordB s i hlt hw
              have hle := span_le wordB s i hi
              exact toks_sz s k' _ (by omega) hle t ht
          · simp at ht; subst ht; exact ⟨Nat.zero_le _, hi⟩
    · simp at ht; subst ht; exact ⟨Nat.zero_le _, Nat.le_refl _⟩
set_option maxRecDepth 100000 in
set_option maxHeartbeats 4000000 in
theorem checkOf_calls (num : ByteArray → Int × Bool) (hc : NumQC num) (hnum : NumOk num) (s : ByteArray) (w : World) (hs : s.size ≤ 90000) (htb : Tab w) : Calls Tryz.prog 39 #[.string s] w (BRet (.tuple #[.int .i64 (checkE num s).1, .int .i64 (checkE num s).2]) w) := by
  by_cases hbig : 2000 < s.size
  · have HR : Hid (checkE num s = (0, 2)) := by unfold checkE; rw [if_pos hbig]; exact Lib.hid rfl
    rw [HR.out]
    go_enter Tryz.func39, Tryz.ntmps39
    go_wp2_with fail
    go_ret2
    exact ⟨rfl, Below.refl _ _⟩
  obtain ⟨j0, hj, hy0, hy1, hy2⟩ := info_parts info_str
  have HR : Hid (checkE num s = chkF num s.size 0 [] (-1) (toks s 0)) := by unfold checkE; rw [if_neg hbig]; exact Lib.hid rfl
  obtain ⟨R, hR⟩ : ∃ R, checkE num s = R := ⟨_, rfl⟩
  rw [hR] at HR ⊢
  clear hR
  have HTK := Lib.hid (tokens_calls s w (by omega))
  have HTB := Lib.hid htb
  have HFT := Lib.hid (fun want (h : want ≤ 6) t o W (h2 : t.size ≤ 100000) (h3 : Tab W) => fits_calls num hc want h t o W h2 h3)
  obtain ⟨L, hL⟩ : ∃ L, toks s 0 = L := ⟨_, rfl⟩
  have HLZ : Hid (∀ t ∈ L, t.1.size ≤ s.size ∧ t.2 ≤ s.size) := by rw [← hL]; exact Lib.hid (toks_sz s _ 0 (Nat.le_refl _) (Nat.zero_le _))
  have hLn : L.length ≤ 2001 := by rw [← hL]; have := toks_len s _ 0 (Nat.le_refl _) (Nat.zero_le _); omega
  unfold TokS at HTK
  rw [hL] at HR HTK
  obtain ⟨n, hn⟩ : ∃ n, L.length = n := ⟨_, rfl⟩
  rw [hn] at HTK hLn
  have HN := Lib.hid hn
  clear hL hn hc htb
  go_enter Tryz.func39, Tryz.ntmps39
  go_wp2_with fail
  refine HTK.out.mono ?_
  rintro e w2 ⟨v, rfl, ho2, hB2⟩
  obtain ⟨A, c, hv⟩ := own_form ho2
  subst hv
  have hS2 := ((Sq.start w).ownB hB2 ho2).nil w.heap.size 9 1
  clear HTK hB2 ho2
  go_wp2_with fail
  go_loopw [4, 5, 6, 7, 18] (fun s4 s5 s6 s7 i wr => ∃ (k want : Nat) (st : List Bool) (dp : Int) (Aw : Option Addr) (cw : Nat), k ≤ n ∧ want ≤ 6 ∧ st.length ≤ k ∧ i = .int .i64 k ∧ s4 = .int .i64 want ∧ s5 = .int .i64 (st.count true : Nat) ∧ s6 = .int .i64 dp ∧ s7 = .slice Aw st.length cw ∧ Hid (want = 1 → popN st = st) ∧ Hid (R = chkF num s.size want st dp (L.drop k)) ∧ Sq w wr [rOwn w.heap.size 9 1 (.slice Aw st.length cw) st.length (wiV st), rOwn w.heap.size 110 2 (.slice A n c) n (L.flatMap tkC)]) (fun _ _ _ _ i _ => n - (intOf i).toNat)
  case atStart => exact ⟨0, 0, [], -1, none, 0, Nat.zero_le _, Nat.zero_le _, Nat.le_refl _, rfl, rfl, rfl, rfl, rfl, Lib.hid (fun h => by cases h), HR, hS2⟩
  case round =>
    clear hS2 HR
    obtain ⟨k, want, st, dp, Aw, cw, hk, hwant, hstk, rfl, rfl, rfl, rfl, rfl, HST, HR, hS⟩ := hrel
    obtain ⟨m, hm⟩ : ∃ m, st.length = m := ⟨_, rfl⟩
    obtain ⟨oc, hoc⟩ : ∃ oc, st.count true = oc := ⟨_, rfl⟩
    have hocm : oc ≤ m := by rw [← hoc, ← hm]; exact List.count_le_length
    have HM := Lib.hid hm
    have HOC := Lib.hid hoc
    rw [hm] at hS hstk ⊢
    rw [hoc]
    clear hm hoc
    by_cases hlt : k < n
    · have hkL : k < L.length := by rw [HN.out]; exact hlt
      have hO : wr.ownsRow w.heap.size 110 2 (.slice A n c) n (L.flatMap tkC) := hS.nth 1 rfl
      obtain ⟨gA, cA, hvA, hcA, _⟩ := hO.form (by omega)
      injection hvA with hvA1 _ hvA3
      subst hvA1 hvA3
      have c0 := own_cell tkC 2 tkC_len hO k 0 hkL (by omega) (by omega)
      have c1 := own_cell tkC 2 tkC_len hO k 1 hkL (by omega) (by omega)
      obtain ⟨tz1, tz2⟩ := HLZ.out L[k] (List.getElem_mem hkL)
      have HD : Hid (L.drop k = L[k] :: L.drop (k + 1)) := Lib.hid (List.drop_eq_getElem_cons hkL)
      obtain ⟨⟨tx, ta⟩, ht⟩ : ∃ t, L[k] = t := ⟨_, rfl⟩
      rw [ht] at c0 c1 tz1 tz2 HD
      simp only at tz1 tz2
      simp [tkC] at c0 c1
      rw [HD.out, chk_step, HOC.out] at HR
      simp only at HR
      have HF := Lib.hid (fun W (h3 : Tab W) => HFT.out want hwant tx oc W (by omega) h3)
      have hnx := fit_nx num want tx oc
      have HSH : Hid (tx = sShut → (fitF num want tx oc).1 = true → ∃ st', st = true :: st') := Lib.hid (fun h1 h2 => by
        subst h1
        rw [← HOC.out] at h2
        exact fit_shut hnum HST.out h2)
      obtain ⟨⟨ok, nx⟩, hfit⟩ : ∃ r, fitF num want tx oc = r := ⟨_, rfl⟩
      rw [hfit] at HR HF hnx HSH
      unfold FitS at HF
      simp only at HR HF hnx HSH
      have hk0 : (0 : Int) ≤ (k : Int) := by omega
      have hk1 : (k : Int) < (n : Int) := by omega
      have hS3 := hS.add #[.string tx, .int .i64 ta] 110
      clear hS hO HD ht hfit
      go_wp2_with fail
      refine (HF.out _ (HTB.out.below hS3.below)).mono ?_
      rintro e w3 ⟨rfl, hb3⟩
      have hS4 := hS3.callB hb3
      have hkb : Blk w3 wr.heap.size 110 #[.string tx, .int .i64 ta] := hS4.head
      have k0 : w3.cell? ⟨wr.heap.size, 0, none⟩ = some (.string tx) := hkb.cell 0
      have k1 : w3.cell? ⟨wr.heap.size, 1, none⟩ = some (.int .i64 ta) := hkb.cell 1
      have hsz3 := hS4.size
      clear hS3 hb3 HF c0 c1 hkb
      obtain ⟨e0, e1⟩ := em_tok tx
      obtain ⟨B, hB⟩ : ∃ B, decide (ok = false ∨ (tx.size = 0 ∧ ta < s.size)) = B := ⟨_, rfl⟩
      have HB1 : Hid (B = true → R = ((ta : Int), 9)) := Lib.hid (fun h => by rw [HR.out, if_pos (of_decide_eq_true (hB.trans h))])
      have HB2 : Hid (B = false → ok = true ∧ R = chkF num s.size nx (if nx = 1 then popN (pushF want tx st) else pushF want tx st) (deepF want tx ta st dp) (L.drop (k + 1))) := Lib.hid (fun h => by
        have hn := of_decide_eq_false (hB.trans h)
        refine ⟨?_, by rw [HR.out, if_neg hn]⟩
        cases ok
        · exact absurd (.inl rfl) hn
        · rfl)
      have HB := Lib.hid hB
      clear HR hB
      go_upto_region 9 with (fail)
      go_cut [43] (fun s43 W => s43 = .bool B ∧ W = w3)
      case first =>
        clear HB1 HB2 hS4
        cases ok
        · have hb : B = true := by rw [← HB.out]; simp
          subst hb
          clear HB
          go_wp2_with fail
          go_meet
          exact ⟨rfl, rfl⟩
        · by_cases hz1 : tx.size = 0
          · rw [decide_eq_true hz1] at e0 e1
            have ez := ba_nil hz1
            have hb : B = decide (ta < s.size) := by rw [← HB.out]; simp [hz1]
            subst ez
            have HBB := Lib.hid hb
            have hcast : decide ((ta : Int) < (s.size : Int)) = decide (ta < s.size) := decide_eq_decide.2 (by omega)
            clear HB hb
            go_wp2_with fail
            go_meet
            exact ⟨by rw [HBB.out], rfl⟩
          · rw [decide_eq_false hz1] at e0 e1
            have e3 : ¬ tx.toList = [] := fun h => by rw [h] at e1; cases e1
            have hb : B = false := by rw [← HB.out]; simp [hz1]
            subst hb
            clear HB hz1
            go_wp2_with fail
            go_meet
            exact ⟨rfl, rfl⟩
      case rest =>
      obtain ⟨rfl, rfl⟩ := hcut
      clear HB e0 e1
      cases B
      rotate_left
      · have HR2 := Lib.hid (HB1.out rfl)
        go_wp2_with fail
        go_ret2
        exact ⟨by rw [HR2.out]; rfl, hS4.below⟩
      obtain ⟨hok, HR⟩ := HB2.out rfl
      have HR := Lib.hid HR
      subst hok
      clear HB1 HB2
      go_upto_block 2 with (fail)
      go_cut [5, 6, 7] (fun s5 s6 s7 W => ∃ (st1 : List Bool) (dp1 : Int) (A1 : Option Addr) (c1 : Nat), s5 = .int .i64 (st1.count true : Nat) ∧ s6 = .int .i64 dp1 ∧ s7 = .slice A1 st1.length c1 ∧ st1.length ≤ k + 1 ∧ Hid (R = chkF num s.size nx (if nx = 1 then popN st1 else st1) dp1 (L.drop (k + 1))) ∧ Sq w W [rOwn w.heap.size 9 1 (.slice A1 st1.length c1) st1.length (wiV st1), rOwn w.heap.size 110 2 (.slice (some ⟨gA, 0, none⟩) n c) n (L.flatMap tkC)])
      case first =>
        have hS5 := hS4.front 1 rfl rfl
        have HO : wc.ownsRow w.heap.size 9 1 (.slice Aw m cw) m (wiV st) := hS5.head
        have eO := tokB tx [40] sOpen rfl
        have eN := tokB tx [110, 111, 116] sNot rfl
        have eS := tokB tx [41] sShut rfl
        by_cases qO : tx = sOpen
        · have HR2 : Hid (R = chkF num s.size nx (if nx = 1 then popN (true :: st) else true :: st) (if 20 < (m : Int) ∧ dp < 0 then (ta : Int) else dp) (L.drop (k + 1))) := by
            rw [HR.out]
            have e1 : pushF want tx st = true :: st := by unfold pushF; rw [if_pos (.inl qO), qO]; rfl
            have e2 : deepF want tx ta st dp = if 20 < (m : Int) ∧ dp < 0 then (ta : Int) else dp := by unfold deepF; rw [if_pos (.inl qO), HM.out]
            rw [e1, e2]
            exact Lib.hid rfl
          have HC : Hid ((true :: st).count true = oc + 1 ∧ (true :: st).length = m + 1 ∧ wiV (true :: st) = wiV st ++ [.string sOpen]) := Lib.hid ⟨by simp [HOC.out], by simp [HM.out], wiV_cons true st⟩
          rw [decide_eq_true qO] at eO
          clear eN eS HR HSH
          subst qO
          by_cases hd1 : 20 < (m : Int)
          · by_cases hd2 : dp < 0
            · have HD : Hid ((if 20 < (m : Int) ∧ dp < 0 then (ta : Int) else dp) = (ta : Int)) := Lib.hid (by rw [if_pos ⟨hd1, hd2⟩])
              rw [HD.out] at HR2
              clear HD
              go_wp2_with (first | (at_builtin; refine wpList_append_own_at _ rfl _ _ 37 rfl w.heap.size 9 j0 (.string ⟨#[]⟩) 1 16 Tryz.underlying37 hj hy0 hy1 hy2 rfl (by decide) _ _ _ rfl (HO.alloc _) ⟨wc.heap.size, 0, none⟩ 1 1 [.string sOpen] rfl rfl (World.news_of_block (heap_alloc_new _ _)) (one1 rfl) (by unfold maxLen; omega) (by omega) (by simp; omega) ?_; intro v' w8 hown' hgrow _ hblk; have hS8 := (hS5.alloc _).append hown' hgrow hblk; obtain ⟨A8, c8, hv8⟩ := own_form hown'; subst hv8; have k8 : w8.cell? ⟨wr.heap.size, 0, none⟩ = some (.string sOpen) := Blk.cell (hS8.nth 1 rfl) 0; clear hown' hgrow hblk HO k0 k1))
              go_meet
              exact ⟨true :: st, (ta : Int), A8, c8, by (rw [HC.out.1]) <;> (first | rfl | simp), rfl, by rw [HC.out.2.1], by rw [HC.out.2.1]; omega, HR2, by rw [HC.out.2.1, HC.out.2.2]; exact hS8.drop 1 rfl rfl⟩
            · have HD : Hid ((if 20 < (m : Int) ∧ dp < 0 then (ta : Int) else dp) = dp) := Lib.hid (by rw [if_neg (fun h => hd2 h.2)])
              rw [HD.out] at HR2
              clear HD
              go_wp2_with (first | (at_builtin; refine wpList_append_own_at _ rfl _ _ 37 rfl w.heap.size 9 j0 (.string ⟨#[]⟩) 1 16 Tryz.underlying37 hj hy0 hy1 hy2 rfl (by decide) _ _ _ rfl (HO.alloc _) ⟨wc.heap.size, 0, none⟩ 1 1 [.string sOpen] rfl rfl (World.news_of_block (heap_alloc_new _ _)) (one1 rfl) (by unfold maxLen; omega) (by omega) (by simp; omega) ?_; intro v' w8 hown' hgrow _ hblk; have hS8 := (hS5.alloc _).append hown' hgrow hblk; obtain ⟨A8, c8, hv8⟩ := own_form hown'; subst hv8; have k8 : w8.cell? ⟨wr.heap.size, 0, none⟩ = some (.string sOpen) := Blk.cell (hS8.nth 1 rfl) 0; clear hown' hgrow hblk HO k0 k1))
              go_meet
              exact ⟨true :: st, dp, A8, c8, by (rw [HC.out.1]) <;> (first | rfl | simp), rfl, by rw [HC.out.2.1], by rw [HC.out.2.1]; omega, HR2, by rw [HC.out.2.1, HC.out.2.2]; exact hS8.drop 1 rfl rfl⟩
          · have HD : Hid ((if 20 < (m : Int) ∧ dp < 0 then (ta : Int) else dp) = dp) := Lib.hid (by rw [if_neg (fun h => hd1 h.1)])
            rw [HD.out] at HR2
            clear HD
            go_wp2_with (first | (at_builtin; refine wpList_append_own_at _ rfl _ _ 37 rfl w.heap.size 9 j0 (.string ⟨#[]⟩) 1 16 Tryz.underlying37 hj hy0 hy1 hy2 rfl (by decide) _ _ _ rfl (HO.alloc _) ⟨wc.heap.size, 0, none⟩ 1 1 [.string sOpen] rfl rfl (World.news_of_block (heap_alloc_new _ _)) (one1 rfl) (by unfold maxLen; omega) (by omega) (by simp; omega) ?_; intro v' w8 hown' hgrow _ hblk; have hS8 := (hS5.alloc _).append hown' hgrow hblk; obtain ⟨A8, c8, hv8⟩ := own_form hown'; subst hv8; have k8 : w8.cell? ⟨wr.heap.size, 0, none⟩ = some (.string sOpen) := Blk.cell (hS8.nth 1 rfl) 0; clear hown' hgrow hblk HO k0 k1))
            go_meet
            exact ⟨true :: st, dp, A8, c8, by (rw [HC.out.1]) <;> (first | rfl | simp), rfl, by rw [HC.out.2.1], by rw [HC.out.2.1]; omega, HR2, by rw [HC.out.2.1, HC.out.2.2]; exact hS8.drop 1 rfl rfl⟩
        have pO : decide (tx = sOpen) = false := decide_eq_false qO
        rw [pO] at eO
        by_cases qN : tx = sNot ∧ want = 0
        · obtain ⟨qN1, qN2⟩ := qN
          have HR2 : Hid (R = chkF num s.size nx (if nx = 1 then popN (false :: st) else false :: st) (if 20 < (m : Int) ∧ dp < 0 then (ta : Int) else dp) (L.drop (k + 1))) := by
            rw [HR.out]
            have e1 : pushF want tx st = false :: st := by unfold pushF; rw [if_pos (.inr ⟨qN1, qN2⟩), decide_eq_false qO]
            have e2 : deepF want tx ta st dp = if 20 < (m : Int) ∧ dp < 0 then (ta : Int) else dp := by unfold deepF; rw [if_pos (.inr ⟨qN1, qN2⟩), HM.out]
            rw [e1, e2]
            exact Lib.hid rfl
          have HC : Hid ((false :: st).count true = oc ∧ (false :: st).length = m + 1 ∧ wiV (false :: st) = wiV st ++ [.string sNot]) := Lib.hid ⟨by simp [HOC.out], by simp [HM.out], wiV_cons false st⟩
          rw [decide_eq_true qN1] at eN
          clear eS HR HSH qO pO
          subst qN1
          subst qN2
          by_cases hd1 : 20 < (m : Int)
          · by_cases hd2 : dp < 0
            · have HD : Hid ((if 20 < (m : Int) ∧ dp < 0 then (ta : Int) else dp) = (ta : Int)) := Lib.hid (by rw [if_pos ⟨hd1, hd2⟩])
              rw [HD.out] at HR2
              clear HD
              go_wp2_with (first | (at_builtin; refine wpList_append_own_at _ rfl _ _ 37 rfl w.heap.size 9 j0 (.string ⟨#[]⟩) 1 16 Tryz.underlying37 hj hy0 hy1 hy2 rfl (by decide) _ _ _ rfl (HO.alloc _) ⟨wc.heap.size, 0, none⟩ 1 1 [.string sNot] rfl rfl (World.news_of_block (heap_alloc_new _ _)) (one1 rfl) (by unfold maxLen; omega) (by omega) (by simp; omega) ?_; intro v' w8 hown' hgrow _ hblk; have hS8 := (hS5.alloc _).append hown' hgrow hblk; obtain ⟨A8, c8, hv8⟩ := own_form hown'; subst hv8; have k8 : w8.cell? ⟨wr.heap.size, 0, none⟩ = some (.string sNot) := Blk.cell (hS8.nth 1 rfl) 0; clear hown' hgrow hblk HO k0 k1))
              go_meet
              exact ⟨false :: st, (ta : Int), A8, c8, by (rw [HC.out.1]) <;> (first | rfl | simp), rfl, by rw [HC.out.2.1], by rw [HC.out.2.1]; omega, HR2, by rw [HC.out.2.1, HC.out.2.2]; exact hS8.drop 1 rfl rfl⟩
            · have HD : Hid ((if 20 < (m : Int) ∧ dp < 0 then (ta : Int) else dp) = dp) := Lib.hid (by rw [if_neg (fun h => hd2 h.2)])
              rw [HD.out] at HR2
              clear HD
              go_wp2_with (first | (at_builtin; refine wpList_append_own_at _ rfl _ _ 37 rfl w.heap.size 9 j0 (.string ⟨#[]⟩) 1 16 Tryz.underlying37 hj hy0 hy1 hy2 rfl (by decide) _ _ _ rfl (HO.alloc _) ⟨wc.heap.size, 0, none⟩ 1 1 [.string sNot] rfl rfl (World.news_of_block (heap_alloc_new _ _)) (one1 rfl) (by unfold maxLen; omega) (by omega) (by simp; omega) ?_; intro v' w8 hown' hgrow _ hblk; have hS8 := (hS5.alloc _).append hown' hgrow hblk; obtain ⟨A8, c8, hv8⟩ := own_form hown'; subst hv8; have k8 : w8.cell? ⟨wr.heap.size, 0, none⟩ = some (.string sNot) := Blk.cell (hS8.nth 1 rfl) 0; clear hown' hgrow hblk HO k0 k1))
              go_meet
              exact ⟨false :: st, dp, A8, c8, by (rw [HC.out.1]) <;> (first | rfl | simp), rfl, by rw [HC.out.2.1], by rw [HC.out.2.1]; omega, HR2, by rw [HC.out.2.1, HC.out.2.2]; exact hS8.drop 1 rfl rfl⟩
          · have HD : Hid ((if 20 < (m : Int) ∧ dp < 0 then (ta : Int) else dp) = dp) := Lib.hid (by rw [if_neg (fun h => hd1 h.1)])
            rw [HD.out] at HR2
            clear HD
            go_wp2_with (first | (at_builtin; refine wpList_append_own_at _ rfl _ _ 37 rfl w.heap.size 9 j0 (.string ⟨#[]⟩) 1 16 Tryz.underlying37 hj hy0 hy1 hy2 rfl (by decide) _ _ _ rfl (HO.alloc _) ⟨wc.heap.size, 0, none⟩ 1 1 [.string sNot] rfl rfl (World.news_of_block (heap_alloc_new _ _)) (one1 rfl) (by unfold maxLen; omega) (by omega) (by simp; omega) ?_; intro v' w8 hown' hgrow _ hblk; have hS8 := (hS5.alloc _).append hown' hgrow hblk; obtain ⟨A8, c8, hv8⟩ := own_form hown'; subst hv8; have k8 : w8.cell? ⟨wr.heap.size, 0, none⟩ = some (.string sNot) := Blk.cell (hS8.nth 1 rfl) 0; clear hown' hgrow hblk HO k0 k1))
            go_meet
            exact ⟨false :: st, dp, A8, c8, by (rw [HC.out.1]) <;> (first | rfl | simp), rfl, by rw [HC.out.2.1], by rw [HC.out.2.1]; omega, HR2, by rw [HC.out.2.1, HC.out.2.2]; exact hS8.drop 1 rfl rfl⟩
        by_cases qS : tx = sShut
        · obtain ⟨st', hst'⟩ := HSH.out qS rfl
          have HR2 : Hid (R = chkF num s.size nx (if nx = 1 then popN st' else st') dp (L.drop (k + 1))) := by
            rw [HR.out]
            have e1 : pushF want tx st = st' := by unfold pushF; rw [if_neg (by rintro (h | h); exact qO h; exact qN h), if_pos qS, hst']; rfl
            have e2 : deepF want tx ta st dp = dp := by unfold deepF; rw [if_neg (by rintro (h | h); exact qO h; exact qN h)]
            rw [e1, e2]
            exact Lib.hid rfl
          subst hst'
          have hm1 : st'.length + 1 = m := by rw [← HM.out]; rfl
          have hoc1 : st'.count true + 1 = oc := by rw [← HOC.out]; simp
          obtain ⟨gw, cw', hvw, _, _⟩ := HO.form (by omega)
          injection hvw with hvw1 _ hvw3
          subst hvw1 hvw3
          have hcw0 := (own_cap HO).1
          obtain ⟨m', hm'⟩ : ∃ m', st'.length = m' := ⟨_, rfl⟩
          obtain ⟨oc', hoc'⟩ : ∃ oc', st'.count true = oc' := ⟨_, rfl⟩
          rw [hm'] at hm1
          rw [hoc'] at hoc1
          subst hm1 hoc1
          have HC : Hid (st'.count true = oc' ∧ st'.length = m' ∧ (wiV (true :: st')).take (m' * 1) = wiV st') := Lib.hid ⟨hoc', hm', by rw [← hm']; exact wiV_tail true st'⟩
          have hS6 := hS5.short (k := m') (by omega)
          rw [HC.out.2.2] at hS6
          have hS7 := hS6.front 1 rfl rfl
          have pN : decide (tx = sNot) = false := by rw [qS]; decide
          rw [pN] at eN
          rw [decide_eq_true qS] at eS
          clear HR HSH qO pO qN pN HO hm' hoc' hS5 hS6 HM HOC
          subst qS
          have hcw1 : m' ≤ cw := by omega
          have hmi : ((m' + 1 : Nat) : Int) - 1 = m' := by omega
          have hmj : ((oc' + 1 : Nat) : Int) - 1 = oc' := by omega
          go_wp2_with fail
          go_meet
          exact ⟨st', dp, some ⟨gw, 0, none⟩, cw, by (rw [HC.out.1]) <;> (first | rfl | (congr 1; omega)), rfl, by (rw [HC.out.2.1]) <;> (first | rfl | (congr 1; omega)), by rw [HC.out.2.1]; omega, HR2, by rw [HC.out.2.1]; exact hS7.tail⟩
        · have HR2 : Hid (R = chkF num s.size nx (if nx = 1 then popN st else st) dp (L.drop (k + 1))) := by
            rw [HR.out]
            have e1 : pushF want tx st = st := by unfold pushF; rw [if_neg (by rintro (h | h); exact qO h; exact qN h), if_neg qS]
            have e2 : deepF want tx ta st dp = dp := by unfold deepF; rw [if_neg (by rintro (h | h); exact qO h; exact qN h)]
            rw [e1, e2]
            exact Lib.hid rfl
          have pS : decide (tx = sShut) = false := decide_eq_false qS
          rw [pS] at eS
          have hfin : ∃ (st1 : List Bool) (dp1 : Int) (A1 : Option Addr) (c1 : Nat), Value.int .i64 (oc : Int) = .int .i64 (st1.count true : Nat) ∧ Value.int .i64 dp = .int .i64 dp1 ∧ Value.slice Aw m cw = .slice A1 st1.length c1 ∧ st1.length ≤ k + 1 ∧ Hid (R = chkF num s.size nx (if nx = 1 then popN st1 else st1) dp1 (L.drop (k + 1))) ∧ Sq w wc [rOwn w.heap.size 9 1 (.slice A1 st1.length c1) st1.length (wiV st1), rOwn w.heap.size 110 2 (.slice (some ⟨gA, 0, none⟩) n c) n (L.flatMap tkC)] :=
            ⟨st, dp, Aw, cw, by rw [HOC.out], rfl, by rw [HM.out], by rw [HM.out]; omega, HR2, by rw [HM.out]; exact hS4.tail⟩
          have H39 := Lib.hid hfin
          clear hfin HR2 HR HSH pS pO qO qS hS4 hS5 HO
          by_cases qN1 : tx = sNot
          · have qW3 : ¬ want = 0 := fun h => qN ⟨qN1, h⟩
            have qW : ((want : Int) == 0) = false := by simp; omega
            have qW4 : ¬ (want : Int) = 0 := by omega
            rw [decide_eq_true qN1] at eN
            clear qN
            subst qN1
            go_wp2_with fail
            go_meet
            exact H39.out
          · rw [decide_eq_false qN1] at eN
            clear qN qN1
            go_wp2_with fail
            go_meet
            exact H39.out
      case rest =>
        obtain ⟨st1, dp1, A1, c1, rfl, rfl, rfl, hl1, HR1, hS⟩ := hcut
        clear HR HSH hS4 k0 k1 tz1 tz2 HST HM HOC
        obtain ⟨stF, hstF⟩ : ∃ stF, (if nx = 1 then popN st1 else st1) = stF := ⟨_, rfl⟩
        have HF1 : Hid (nx = 1 → popN stF = stF) := Lib.hid (fun h => by rw [← hstF, if_pos h]; exact popN_top st1)
        have HF2 : Hid (stF.length ≤ st1.length ∧ stF.count true = st1.count true) := Lib.hid (by
          rw [← hstF]
          split
          · exact ⟨popN_len _, popN_count _⟩
          · exact ⟨Nat.le_refl _, rfl⟩)
        rw [hstF] at HR1
        have HSF := Lib.hid hstF
        clear hstF
        go_upto_block 3 with (fail)
        go_cut [7] (fun s7 W => s7 = .slice A1 stF.length c1 ∧ Sq w W [rOwn w.heap.size 9 1 (.slice A1 stF.length c1) stF.length (wiV stF), rOwn w.heap.size 110 2 (.slice (some ⟨gA, 0, none⟩) n c) n (L.flatMap tkC)])
        case first =>
          clear HR1 HF1 HF2
          go_wp2_with fail
          go_loopw [7] (fun s7 W => ∃ st2 : List Bool, s7 = .slice A1 st2.length c1 ∧ st2.length ≤ k + 1 ∧ Hid ((if nx = 1 then popN st2 else st2) = stF) ∧ Sq w W [rOwn w.heap.size 9 1 (.slice A1 st2.length c1) st2.length (wiV st2), rOwn w.heap.size 110 2 (.slice (some ⟨gA, 0, none⟩) n c) n (L.flatMap tkC)]) (fun s7 _ => lenV s7)
          case atStart => exact ⟨st1, rfl, hl1, HSF, hS⟩
          case round =>
            clear hS HSF
            obtain ⟨st2, rfl, hl2, HS2, hS⟩ := hrel
            by_cases hn1 : nx = 1
            · have hq : ((nx : Int) == 1) = true := by rw [hn1]; rfl
              have HP : Hid (popN st2 = stF) := Lib.hid (by have := HS2.out; rw [if_pos hn1] at this; exact this)
              clear HS2
              cases st2 with
              | nil =>
                have e : stF = [] := HP.out.symm
                subst e
                subst hn1
                go_wp2_with fail
                go_meet
                exact ⟨rfl, hS⟩
              | cons b st3 =>
                obtain ⟨m3, hm3⟩ : ∃ m3, st3.length = m3 := ⟨_, rfl⟩
                have hO : wr.ownsRow w.heap.size 9 1 (.slice A1 (b :: st3).length c1) (b :: st3).length (wiV (b :: st3)) := hS.head
                have hlast := wiV_last b st3
                have hlen : (b :: st3).length = m3 + 1 := by rw [List.length_cons, hm3]
                rw [hlen] at hO hS hl2
                rw [hm3] at hlast
                obtain ⟨gw, cw2, hvw, _, _⟩ := hO.form (by omega)
                injection hvw with hvw1 _ hvw3
                subst hvw1 hvw3
                have d0 : wr.cell? ⟨gw, m3, none⟩ = some (wiB b) := (hO.cellAt m3 (by omega)).trans hlast
                have hcw0 := (own_cap hO).1
                have hcw1 : m3 ≤ c1 := by omega
                have hgt : (0 : Int) < ((m3 + 1 : Nat) : Int) := by omega
                have hmi : ((m3 + 1 : Nat) : Int) - 1 = m3 := by omega
                have HML := Lib.hid hlen
                have HM3 := Lib.hid hm3
                rw [HML.out]
                clear hlast hO hlen
                cases b
                · have d1 : wr.cell? ⟨gw, m3, none⟩ = some (.string sNot) := d0
                  have eN : (sNot.toList == [110, 111, 116]) = true := (tokB sNot [110, 111, 116] sNot rfl).trans (decide_eq_true rfl)
                  have HP2 : Hid ((if nx = 1 then popN st3 else st3) = stF) := Lib.hid (by rw [if_pos hn1]; exact HP.out)
                  have hS6 := hS.short (k := m3) (by omega)
                  have ew : (wiV (false :: st3)).take (m3 * 1) = wiV st3 := by rw [← HM3.out]; exact wiV_tail false st3
                  rw [ew] at hS6
                  clear ew hS d0 HP hm3
                  subst hn1
                  go_wp2_with fail
                  go_roundw
                  case rel => exact ⟨st3, by rw [HM3.out], by rw [HM3.out]; omega, HP2, by rw [HM3.out]; exact hS6⟩
                  case measure => simp [lenV]
                · have d1 : wr.cell? ⟨gw, m3, none⟩ = some (.string sOpen) := d0
                  have eN : (sOpen.toList == [110, 111, 116]) = false := (tokB sOpen [110, 111, 116] sNot rfl).trans (decide_eq_false (by decide))
                  have e : stF = true :: st3 := HP.out.symm
                  clear d0 HP hm3
                  subst hn1
                  go_wp2_with fail
                  go_meet
                  exact ⟨by rw [e, HML.out], by rw [e, HML.out]; exact hS⟩
            · have hq : ((nx : Int) == 1) = false := by simp; omega
              have hq2 : ¬ (nx : Int) = 1 := by omega
              have e : stF = st2 := by have := HS2.out; rw [if_neg hn1] at this; exact this.symm
              subst e
              go_wp2_with fail
              go_meet
              exact ⟨rfl, hS⟩
        case rest =>
          obtain ⟨rfl, hSF⟩ := hcut
          clear hS HSF
          obtain ⟨hf1, hf2⟩ := HF2.out
          have HCF := Lib.hid hf2
          clear hf2
          go_wp2_with fail
          go_roundw
          case rel => exact ⟨k + 1, nx, stF, dp1, A1, c1, hlt, hnx, by omega, by go_num, rfl, by rw [HCF.out], rfl, rfl, HF1, HR1, hSF⟩
          case measure => simp [intOf]; omega
    · obtain rfl : k = n := by omega
      have HD : Hid (L.drop k = []) := Lib.hid (List.drop_of_length_le (by rw [HN.out]; exact Nat.le_refl _))
      rw [HD.out] at HR
      by_cases hdp : 0 ≤ dp
      · have HR2 : Hid (R = (dp, 2)) := by rw [HR.out, chkF, if_pos hdp]; exact Lib.hid rfl
        clear HR
        go_wp2_with fail
        go_ret2
        exact ⟨by rw [HR2.out]; rfl, hS.below⟩
      · have HR2 : Hid (R = (0, 0)) := by rw [HR.out, chkF, if_neg hdp]; exact Lib.hid rfl
        have hdp2 : dp < 0 := by omega
        clear HR
        go_wp2_with fail
        go_ret2
        exact ⟨by rw [HR2.out]; rfl, hS.below⟩
end Go.Proofs.YtlkapcjofgpiiaaGreatDoor

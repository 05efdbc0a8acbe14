/-
  timer.Parse by its contract. (Printed by gen_tim4.py.)
-/
import Derived.Test.YtipbhgefcmekpaaGreatDoorZTim3
import Derived.Deep.DeepCutAuto
import Derived.Deep.CutBlock
namespace Go.Proofs.YtipbhgefcmekpaaGreatDoor
open Go Go.RowKit TxtP
attribute [local go_sem ↓ high] run_sumS

theorem toL_ne {t : ByteArray} (h : 0 < t.size) : (t.toList == []) = false := by
  have he1 := isEmpty_f h
  rw [← he1]
  cases t.toList <;> rfl
def pieceOk (n j : Nat) (x : List UInt8) : Bool := if j = 0 then headOk x n else tailOk x
theorem prog_all {L : List (List UInt8)} (h0 : L ≠ []) (h : ∀ j (hj : j < L.length), pieceOk L.length j L[j] = true) : progOk L = true := by
  cases L with
  | nil => exact absurd rfl h0
  | cons x r =>
    unfold progOk
    rw [Bool.and_eq_true]
    refine ⟨h 0 (by simp), ?_⟩
    rw [List.all_eq_true]
    intro y hy
    obtain ⟨j, hj, rfl⟩ := List.getElem_of_mem hy
    have := h (j + 1) (by simp; omega)
    unfold pieceOk at this
    rw [if_neg (by omega)] at this
    exact this
theorem prog_no {L : List (List UInt8)} {j : Nat} (hj : j < L.length) (h : pieceOk L.length j L[j] = false) : progOk L = false := by
  cases L with
  | nil => simp at hj
  | cons x r =>
    unfold progOk
    rw [Bool.and_eq_false_iff]
    cases j with
    | zero => exact Or.inl h
    | succ j =>
      right
      rw [List.all_eq_false]
      unfold pieceOk at h
      rw [if_neg (by omega)] at h
      refine ⟨r[j]'(by simpa using hj), List.getElem_mem _, ?_⟩
      have h2 : tailOk (r[j]'(by simpa using hj)) = false := h
      rw [h2]; decide
theorem fold_step {L : List (List UInt8)} {k : Nat} (hk : k < L.length) : foldV (L.take (k + 1)) = foldV (L.take k) * 60 + digV L[k] := by
  rw [List.take_succ_eq_append_getElem hk]
  unfold foldV
  rw [List.foldl_append]
  rfl
def ParR (l : List UInt8) (w : World) (e : Ending) (w' : World) : Prop := BRet (.tuple #[.int .i64 (parseT l), .int .i64 (parseD l), .int .i64 (parseE l)]) w e w'
theorem ParR.no {l : List UInt8} {w w' : World} (h : parseOk l = false) (hb : Below w.heap.size w w') : ParR l w (.returned (.tuple #[.int .i64 0, .int .i64 0, .int .i64 9])) w' := by
  have e1 : parseE l = 9 := by unfold parseE; rw [if_pos h]
  have e2 : parseT l = 0 := by unfold parseT; rw [if_neg (by rw [e1]; decide)]
  have e3 : parseD l = 0 := by unfold parseD; rw [if_neg (by rw [e1]; decide)]
  unfold ParR
  rw [e1, e2, e3]
  exact ⟨rfl, hb⟩
theorem ParR.big {l : List UInt8} {w w' : World} (h : parseOk l = true) (hn : 864000000 < parseN l) (hb : Below w.heap.size w w') : ParR l w (.returned (.tuple #[.int .i64 0, .int .i64 0, .int .i64 1])) w' := by
  have e1 : parseE l = 1 := by unfold parseE; rw [if_neg (by rw [h]; decide), if_pos hn]
  have e2 : parseT l = 0 := by unfold parseT; rw [if_neg (by rw [e1]; decide)]
  have e3 : parseD l = 0 := by unfold parseD; rw [if_neg (by rw [e1]; decide)]
  unfold ParR
  rw [e1, e2, e3]
  exact ⟨rfl, hb⟩
theorem ParR.yes {l : List UInt8} {w w' : World} (h : parseOk l = true) (hn : ¬ 864000000 < parseN l) (hb : Below w.heap.size w w') : ParR l w (.returned (.tuple #[.int .i64 (parseN l), .int .i64 (cutL l).2.1.length, .int .i64 0])) w' := by
  have e1 : parseE l = 0 := by unfold parseE; rw [if_neg (by rw [h]; decide), if_neg hn]
  have e2 : parseT l = parseN l := by unfold parseT; rw [if_pos e1]
  have e3 : parseD l = (cutL l).2.1.length := by unfold parseD; rw [if_pos e1]
  unfold ParR
  rw [e1, e2, e3]
  exact ⟨rfl, hb⟩
theorem cut_calls (s : ByteArray) (w : World) (hs : s.size < 4294967281) (hx : MxL w) : Calls Tryz.prog 14 #[.string s, .string ⟨#[46]⟩] w (fun e w' => e = .returned (.tuple #[.string ⟨(cutL s.data.toList).1.toArray⟩, .string ⟨(cutL s.data.toList).2.1.toArray⟩, .bool (cutL s.data.toList).2.2]) ∧ ∃ n, w' = w.drewN n) := by
  obtain ⟨m, hm⟩ := hx
  exact Tryz.strings_Cut s ⟨#[46]⟩ m w hs hm
theorem cutL_len (l : List UInt8) : (cutL l).1.length ≤ l.length ∧ (cutL l).2.1.length ≤ l.length := by
  obtain ⟨h, h2⟩ := cutL_back l
  have h3 := congrArg List.length h
  rw [List.length_append] at h3
  refine ⟨by omega, ?_⟩
  cases hp : (cutL l).2.2 with
  | false => rw [h2 hp]; exact Nat.zero_le _
  | true => rw [hp, if_pos rfl, List.length_cons] at h3; omega
theorem frac_atoi {part : List UInt8} (h : part.all isDig = true) : Lib.atoi (frq part) = some ((fracV part : Nat) : Int) ∧ fracV part < 1000 := by
  have hl := frq_len part
  have hd := frq_dig h
  have hne : frq part ≠ [] := by intro e; rw [e] at hl; cases hl
  have hlt := (three_back hl hd).1
  refine ⟨?_, hlt⟩
  cases hq : frq part with
  | nil => exact absurd hq hne
  | cons b r =>
    have hb : isDig b = true := by rw [hq, List.all_cons, Bool.and_eq_true] at hd; exact hd.1
    have h45 : b ≠ 45 := by intro e; rw [e] at hb; exact absurd hb (by decide)
    rw [atoi_plain h45 hb, ← hq, decNat_digs hne hd]
    rfl
theorem dig_atoi {x : List UInt8} (h0 : x ≠ []) (h : x.all isDig = true) : Lib.atoi x = some ((digV x : Nat) : Int) := by
  cases hq : x with
  | nil => exact absurd hq h0
  | cons b r =>
    rw [hq] at h h0
    have hb : isDig b = true := by rw [List.all_cons, Bool.and_eq_true] at h; exact h.1
    have h45 : b ≠ 45 := by intro e; rw [e] at hb; exact absurd hb (by decide)
    rw [atoi_plain h45 hb, decNat_digs h0 h]
    rfl
theorem fracOk_dig {pt : Bool} {part : List UInt8} (h : fracOk pt part = true) (h0 : pt = false → part = []) : part.all isDig = true ∧ part.length ≤ 3 := by
  cases pt with
  | false => rw [h0 rfl]; exact ⟨rfl, Nat.zero_le _⟩
  | true =>
    unfold fracOk at h
    rw [Bool.not_true, Bool.false_or, Bool.and_eq_true, decide_eq_true_iff] at h
    exact ⟨h.2, h.1.2⟩
set_option maxRecDepth 100000 in
set_option maxHeartbeats 4000000 in
theorem timParse_calls (s : ByteArray) (w : World) (hs : s.size ≤ 10000) (hx : MxL w) (hE : ErrS w) : Calls Tryz.prog 6 #[.string s] w (ParR s.data.toList w) := by
  have hsl : s.data.toList.length = s.size := by simp
  have HCU := Lib.hid (cut_calls s w (by omega) hx)
  obtain ⟨hl1, hl2⟩ := cutL_len s.data.toList
  have hno := (cutL_back s.data.toList).2
  obtain ⟨l, hl⟩ : ∃ l, l = s.data.toList := ⟨_, rfl⟩
  rw [← hl] at HCU hl1 hl2 hno hsl ⊢
  obtain ⟨wh, hwh⟩ : ∃ wh : ByteArray, wh = ⟨(cutL l).1.toArray⟩ := ⟨_, rfl⟩
  obtain ⟨pa, hpa⟩ : ∃ pa : ByteArray, pa = ⟨(cutL l).2.1.toArray⟩ := ⟨_, rfl⟩
  obtain ⟨pt, hpt⟩ : ∃ pt, pt = (cutL l).2.2 := ⟨_, rfl⟩
  have hwl : wh.data.toList = (cutL l).1 := by rw [hwh]
  have hpl : pa.data.toList = (cutL l).2.1 := by rw [hpa]
  have hws : wh.size ≤ 10000 := by rw [hwh, ba_size]; omega
  have hps : pa.size ≤ 10000 := by rw [hpa, ba_size]; omega
  have hpln : pa.data.toList.length = pa.size := by simp
  rw [← hwh, ← hpa, ← hpt] at HCU
  have HF : Hid (parseOk l = (fracOk pt pa.data.toList && decide ((spl 58 wh.data.toList).length ≤ 3) && progOk (spl 58 wh.data.toList))) := by
    refine Lib.hid ?_
    unfold parseOk
    rw [hpl, hwl, hpt]
  have HN : Hid (parseN l = foldV (spl 58 wh.data.toList) * 1000 + fracV pa.data.toList) := by
    refine Lib.hid ?_
    unfold parseN
    rw [hpl, hwl]
  have HNP : Hid (pt = false → pa.data.toList = []) := Lib.hid (fun h => by rw [hpl]; exact hno (by rw [← hpt]; exact h))
  have HPL : Hid ((cutL l).2.1.length = pa.size) := Lib.hid (by rw [← hpl]; exact hpln)
  have HSP := Lib.hid (fun V (h : MxL V) => split_calls wh 58 V (by omega) h)
  have HTR := Lib.hid (fun V => trimS_calls pa V (by omega))
  have HXE := Lib.hid (And.intro hx hE)
  clear hwh hpa hpt hwl hpl hl1 hl2 hno hsl hs hx hE hl
  go_enter Tryz.func6, Tryz.ntmps6
  go_upto_region 3 with (first | (go_at_call 14; refine HCU.out.mono ?_; rintro e w1 ⟨rfl, n1, rfl⟩))
  have hb1 : Below w.heap.size w (w.drewN n1) := below_drewN (Below.refl _ _) n1
  go_cut [34] (fun s34 V => s34 = .bool (!fracOk pt pa.data.toList) ∧ Below w.heap.size w V)
  case first =>
    clear HF HN HSP HPL HCU
    cases pt
    · have hf : Hid (fracOk false pa.data.toList = true) := Lib.hid rfl
      clear HNP HTR
      go_wp2_with fail
      go_meet
      exact ⟨by rw [hf.out]; rfl, hb1⟩
    · have hout : outB (pa.size : Int) 1 3 = !decide (1 ≤ pa.data.toList.length ∧ pa.data.toList.length ≤ 3) := by
        unfold outB
        rw [hpln]
        by_cases h : 1 ≤ pa.size ∧ pa.size ≤ 3
        · rw [decide_eq_true h, decide_eq_false (by omega)]; rfl
        · rw [decide_eq_false h, decide_eq_true (by omega)]; rfl
      have hf : fracOk true pa.data.toList = (!outB (pa.size : Int) 1 3 && pa.data.toList.all isDig) := by
        unfold fracOk
        rw [hout, Bool.not_not, Bool.not_true, Bool.false_or]
      clear hout HNP
      cases ho : outB (pa.size : Int) 1 3
      · rw [ho, Bool.not_false, Bool.true_and] at hf
        cases hd : pa.data.toList.all isDig
        · rw [hd] at hf
          have HFF := Lib.hid hf
          clear hf
          have HT2 : Hid (∀ V, Calls Tryz.prog 15 #[.string pa, .string ⟨#[48, 49, 50, 51, 52, 53, 54, 55, 56, 57]⟩] V (fun e w' => ∃ t : ByteArray, e = .returned (.string t) ∧ 0 < t.size ∧ Below V.heap.size V w')) :=
            Lib.hid (fun V => (HTR.out V).mono (fun e w' ⟨t, h1, _, h3, h4⟩ => ⟨t, h1, h3 hd, h4⟩))
          clear HTR hd
          go_wp2_with (first
            | (go_at_call 12; refine (out_calls _ _ _ _).mono ?_; rintro e w2 ⟨rfl, rfl⟩)
            | (go_at_call 15; refine (HT2.out _).mono ?_; rintro e w3 ⟨t, rfl, ht0, hb3⟩; have he1 := isEmpty_f (s := t) ht0; have he2 : (t.toList == []) = false := toL_ne ht0))
          go_meet
          exact ⟨by rw [HFF.out]; rfl, below_call hb1 hb3 (Nat.le_refl _)⟩
        · rw [hd] at hf
          have HFF := Lib.hid hf
          clear hf
          have HT2 : Hid (∀ V, Calls Tryz.prog 15 #[.string pa, .string ⟨#[48, 49, 50, 51, 52, 53, 54, 55, 56, 57]⟩] V (fun e w' => e = .returned (.string ⟨#[]⟩) ∧ Below V.heap.size V w')) :=
            Lib.hid (fun V => (HTR.out V).mono (fun e w' ⟨t, h1, h2, _, h4⟩ => ⟨by rw [h1, h2 hd], h4⟩))
          clear HTR hd
          go_wp2_with (first
            | (go_at_call 12; refine (out_calls _ _ _ _).mono ?_; rintro e w2 ⟨rfl, rfl⟩)
            | (go_at_call 15; refine (HT2.out _).mono ?_; rintro e w3 ⟨rfl, hb3⟩))
          go_meet
          exact ⟨by rw [HFF.out]; rfl, below_call hb1 hb3 (Nat.le_refl _)⟩
      · rw [ho, Bool.not_true, Bool.false_and] at hf
        have HFF := Lib.hid hf
        clear hf HTR
        go_wp2_with (first
          | (go_at_call 12; refine (out_calls _ _ _ _).mono ?_; rintro e w2 ⟨rfl, rfl⟩))
        go_meet
        exact ⟨by rw [HFF.out]; rfl, hb1⟩
  case rest =>
    obtain ⟨rfl, hb2⟩ := hcut
    clear hb1
    cases hfr : fracOk pt pa.data.toList
    · have HR : Hid (∀ w', Below w.heap.size w w' → ParR l w (.returned (.tuple #[.int .i64 0, .int .i64 0, .int .i64 9])) w') := Lib.hid (fun w' h => ParR.no (by rw [HF.out, hfr, Bool.false_and, Bool.false_and]) h)
      clear HF HN HSP hfr HTR HCU HPL HNP
      go_wp2_with fail
      go_ret3
      exact HR.out _ hb2
    · have HFD := Lib.hid (fracOk_dig hfr HNP.out)
      rw [hfr, Bool.true_and] at HF
      obtain ⟨P, hP⟩ : ∃ P, P = pcs 58 wh := ⟨_, rfl⟩
      have hPd := pcs_data 58 wh
      obtain ⟨L, hL⟩ : ∃ L, L = spl 58 wh.data.toList := ⟨_, rfl⟩
      rw [← hP, ← hL] at hPd
      have hle := pcs_le 58 wh
      have HSP2 := Lib.hid (HSP.out _ (HXE.out.1.below hb2))
      unfold SplR at HSP2
      rw [← hP] at HSP2 hle
      rw [← hL] at HF HN
      obtain ⟨n, hn⟩ : ∃ n, n = P.length := ⟨_, rfl⟩
      rw [← hn] at HSP2 hle
      have hLn : L.length = n := by rw [hn, ← hPd, List.length_map]
      have hL0 : L ≠ [] := by
        obtain ⟨a, q, e⟩ := spl_some 58 wh.data.toList
        rw [hL, e]; simp
      have HPS : Hid (∀ k (h : k < P.length), P[k].size ≤ 10000 ∧ ∀ h2 : k < L.length, P[k].data.toList = L[k]) := by
        refine Lib.hid (fun k h => ⟨?_, fun h2 => ?_⟩)
        · have := pcs_size (c := 58) (s := wh) (x := P[k]) (by rw [← hP]; exact List.getElem_mem h)
          omega
        · have h4 : (P.map (·.data.toList))[k]? = some L[k] := by rw [hPd, List.getElem?_eq_getElem h2]
          rw [List.getElem?_map, List.getElem?_eq_getElem h] at h4
          exact Option.some.inj h4
      clear hPd hP hL HSP HTR HCU
      by_cases h3 : 3 < n
      · have HR : Hid (∀ w', Below w.heap.size w w' → ParR l w (.returned (.tuple #[.int .i64 0, .int .i64 0, .int .i64 9])) w') := Lib.hid (fun w' h => ParR.no (by rw [HF.out, decide_eq_false (by omega), Bool.false_and]) h)
        have h3i : (3 : Int) < (n : Int) := by omega
        clear HF HN HFD HPL HNP hn HPS hLn hL0 h3 hfr
        go_wp2_with (first | (go_at_call 16; refine HSP2.out.mono ?_; rintro e w4 ⟨rfl, hb4, hk4⟩))
        go_ret3
        exact HR.out _ (below_call hb2 hb4 (Nat.le_refl _))
      · have h3i : ¬ (3 : Int) < (n : Int) := by omega
        rw [decide_eq_true (by omega), Bool.true_and] at HF
        have HNK := Lib.hid hn
        have HLN := Lib.hid hLn
        have HL0 := Lib.hid hL0
        obtain ⟨G, hG⟩ : ∃ G, G = wc.heap.size := ⟨_, rfl⟩
        have HSP3 : Hid (Calls Tryz.prog 16 #[.string wh, .string ⟨#[58]⟩] wc (fun e w' => e = .returned (.slice (some ⟨G, 0, none⟩) n n) ∧ Below wc.heap.size wc w' ∧ Blk w' G 9 (strCs P))) := by
          rw [hG]; exact HSP2
        clear hn hLn hL0 hfr hG HSP2
        go_wp2_with (first | (go_at_call 16; refine HSP3.out.mono ?_; rintro e w4 ⟨rfl, hb4, hk4⟩))
        have hb5 := below_call hb2 hb4 (Nat.le_refl _)
        clear hb4 HSP3
        go_loopw [10, 42] (fun tm i wr => ∃ k V : Nat, k ≤ n ∧ i = .int .i64 k ∧ tm = .int .i64 V ∧ Hid (V = foldV (L.take k)) ∧ Hid (∀ j (h : j < L.length), j < k → pieceOk n j L[j] = true) ∧ (k = 0 → V = 0) ∧ (k ≤ 1 → V < 100000) ∧ (k ≤ 2 → V < 6000000) ∧ V < 360000000 ∧ Below w.heap.size w wr ∧ Blk wr G 9 (strCs P)) (fun _ i _ => n - (intOf i).toNat)
        case atStart => exact ⟨0, 0, Nat.zero_le _, rfl, rfl, Lib.hid (by rw [List.take_zero]; rfl), Lib.hid (fun j h hj => by omega), fun _ => rfl, fun _ => by omega, fun _ => by omega, by omega, hb5, hk4⟩
        case round =>
          clear hb2 hb5 hk4
          obtain ⟨k, V, hk, rfl, rfl, HV, HO, hv0, hv1, hv2, hv3, hbr, hkr⟩ := hrel
          have HM : Hid (MxL wr ∧ ErrS wr) := Lib.hid ⟨HXE.out.1.below hbr, HXE.out.2.below hbr⟩
          by_cases hlt : k < n
          · have hkP : k < P.length := by rw [← HNK.out]; exact hlt
            have hkL : k < L.length := by rw [HLN.out]; exact hlt
            have hc := (hkr.cell k).trans (strCs_at hkP)
            obtain ⟨hxz, hxd0⟩ := HPS.out k hkP
            have hxd := hxd0 hkL
            obtain ⟨x, hx⟩ : ∃ x, x = P[k] := ⟨_, rfl⟩
            rw [← hx] at hc hxz hxd
            have HNU := Lib.hid (fun W => number_calls x 5 (by decide) W (by unfold maxLen; omega))
            have HR : Hid (pieceOk n k x.data.toList = false → ∀ w', Below w.heap.size w w' → ParR l w (.returned (.tuple #[.int .i64 0, .int .i64 0, .int .i64 9])) w') := by
              refine Lib.hid (fun h w' hb => ParR.no ?_ hb)
              rw [HF.out]
              refine prog_no hkL ?_
              rw [HLN.out, ← hxd]
              exact h
            have HY : Hid (pieceOk n k x.data.toList = true → ∀ V2, V2 = V * 60 + digV x.data.toList → Hid (V2 = foldV (L.take (k + 1))) ∧ Hid (∀ j (h : j < L.length), j < k + 1 → pieceOk n j L[j] = true)) := by
              refine Lib.hid (fun h V2 hV2 => ⟨Lib.hid ?_, Lib.hid (fun j hj hjk => ?_)⟩)
              · rw [fold_step hkL, ← HV.out, ← hxd, hV2]
              · by_cases e : j = k
                · subst e; rw [← hxd]; exact h
                · exact HO.out j hj (by omega)
            clear hxd0 hxd hx HF HN HFD HPL HNP HV HO
            by_cases hk0 : k = 0
            · subst hk0
              have hV0 := hv0 rfl
              subst hV0
              clear hv0 hv1 hv2 hv3
              have hpo : pieceOk n 0 x.data.toList = headOk x.data.toList n := rfl
              rw [hpo] at HR HY
              obtain ⟨z, B, hzB⟩ : ∃ (z : Int) (B : Bool), numR x.data.toList 5 = .tuple #[.int .i64 z, .bool B] ∧ B = numB x.data.toList 5 ∧ z = (if numB x.data.toList 5 = true then numI x.data.toList else 0) := ⟨_, _, rfl, rfl, rfl⟩
              obtain ⟨hz1, hz2, hz3⟩ := hzB
              rw [hz1] at HNU
              clear hz1 hpo
              by_cases hok : headOk x.data.toList n = true
              · obtain ⟨g1, g2, g3, g4⟩ := head_iff.1 hok
                rw [g1] at hz2
                rw [if_pos g1] at hz3
                subst hz2
                obtain ⟨a1, a2, a3, a4, a5⟩ := head_plain g1 g2
                have hdl := digV_lt x.data.toList a3
                have hdl2 : digV x.data.toList < 100000 := Nat.lt_of_lt_of_le hdl (Nat.le_trans (Nat.pow_le_pow_right (by decide) a2) (by decide))
                obtain ⟨V2, hV2⟩ : ∃ V2 : Nat, V2 = digV x.data.toList := ⟨_, rfl⟩
                obtain ⟨HV2, HO2⟩ := HY.out hok V2 (by rw [hV2]; omega)
                have hz : z = (V2 : Int) := by rw [hz3, a4, hV2]
                rw [← hz3] at g2 g3 g4
                have hV2b : V2 < 100000 := by rw [hV2]; exact hdl2
                clear HR HY hok g1 hz3 a1 a2 a3 a4 a5 hdl hdl2 hV2
                subst hz
                have f1 : ¬ (V2 : Int) < 0 := by omega
                have f2 : (n : Int) < 3 → ¬ (60 : Int) ≤ (V2 : Int) := by omega
                have f3 : 1 < n → ((V2 : Int) == 0) = false := by
                  intro h
                  have : ¬ (V2 : Int) = 0 := fun e => g4 ⟨h, e⟩
                  simpa using this
                clear g2 g3 g4
                by_cases hn3 : (n : Int) < 3
                · have f2' := f2 hn3
                  by_cases hn1 : 1 < n
                  · have f3' := f3 hn1
                    have hn1i : (1 : Int) < (n : Int) := by omega
                    clear f2 f3
                    go_wp2_with (first | (go_at_call 17; refine (HNU.out _).mono ?_; rintro e w5 ⟨rfl, hb5⟩))
                    have hbZ := below_call hbr hb5 (Nat.le_refl _)
                    have hkZ : Blk w5 G 9 (strCs P) := hkr.below hb5
                    clear hbr hb5 hkr hc HNU
                    go_roundw
                    case rel => exact ⟨1, V2, by omega, by go_num, by go_num, HV2, HO2, fun h => by omega, fun _ => hV2b, fun _ => by omega, by omega, hbZ, hkZ⟩
                    case measure => simp [intOf]; omega
                  · have hn1i : ¬ (1 : Int) < (n : Int) := by omega
                    clear f2 f3
                    go_wp2_with (first | (go_at_call 17; refine (HNU.out _).mono ?_; rintro e w5 ⟨rfl, hb5⟩))
                    have hbZ := below_call hbr hb5 (Nat.le_refl _)
                    have hkZ : Blk w5 G 9 (strCs P) := hkr.below hb5
                    clear hbr hb5 hkr hc HNU
                    go_roundw
                    case rel => exact ⟨1, V2, by omega, by go_num, by go_num, HV2, HO2, fun h => by omega, fun _ => hV2b, fun _ => by omega, by omega, hbZ, hkZ⟩
                    case measure => simp [intOf]; omega
                · have hn1 : 1 < n := by omega
                  have f3' := f3 hn1
                  have hn1i : (1 : Int) < (n : Int) := by omega
                  clear f2 f3
                  go_wp2_with (first | (go_at_call 17; refine (HNU.out _).mono ?_; rintro e w5 ⟨rfl, hb5⟩))
                  have hbZ := below_call hbr hb5 (Nat.le_refl _)
                  have hkZ : Blk w5 G 9 (strCs P) := hkr.below hb5
                  clear hbr hb5 hkr hc HNU
                  go_roundw
                  case rel => exact ⟨1, V2, by omega, by go_num, by go_num, HV2, HO2, fun h => by omega, fun _ => hV2b, fun _ => by omega, by omega, hbZ, hkZ⟩
                  case measure => simp [intOf]; omega
              · have HR2 := Lib.hid (HR.out (by simpa using hok))
                clear HR HY
                cases B
                · clear hz2 hz3 hok
                  go_wp2_with (first | (go_at_call 17; refine (HNU.out _).mono ?_; rintro e w5 ⟨rfl, hb5⟩))
                  go_ret3
                  exact HR2.out _ (below_call hbr hb5 (Nat.le_refl _))
                · have g1 : numB x.data.toList 5 = true := hz2.symm
                  rw [if_pos g1] at hz3
                  by_cases f1 : z < 0
                  · clear hz2 hz3 hok g1
                    go_wp2_with (first | (go_at_call 17; refine (HNU.out _).mono ?_; rintro e w5 ⟨rfl, hb5⟩))
                    go_ret3
                    exact HR2.out _ (below_call hbr hb5 (Nat.le_refl _))
                  · by_cases hn3 : (n : Int) < 3 ∧ 60 ≤ z
                    · obtain ⟨hn3, f2⟩ := hn3
                      clear hz2 hz3 hok g1
                      go_wp2_with (first | (go_at_call 17; refine (HNU.out _).mono ?_; rintro e w5 ⟨rfl, hb5⟩))
                      go_ret3
                      exact HR2.out _ (below_call hbr hb5 (Nat.le_refl _))
                    · have hz0 : z = 0 ∧ 1 < n := by
                        by_cases e : z = 0 ∧ 1 < n
                        · exact e
                        · exfalso
                          apply hok
                          rw [head_iff]
                          refine ⟨g1, by rw [← hz3]; omega, ?_, ?_⟩
                          · rw [← hz3]
                            by_cases h5 : (n : Int) < 3
                            · right
                              have : ¬ 60 ≤ z := fun h6 => hn3 ⟨h5, h6⟩
                              omega
                            · left; omega
                          · rw [← hz3]
                            exact fun h => e ⟨h.2, h.1⟩
                      obtain ⟨hz0, hn1⟩ := hz0
                      have hn1i : (1 : Int) < (n : Int) := by omega
                      clear hz2 hz3 hok g1 hn3 f1
                      subst hz0
                      by_cases hn3 : (n : Int) < 3
                      · go_wp2_with (first | (go_at_call 17; refine (HNU.out _).mono ?_; rintro e w5 ⟨rfl, hb5⟩))
                        go_ret3
                        exact HR2.out _ (below_call hbr hb5 (Nat.le_refl _))
                      · go_wp2_with (first | (go_at_call 17; refine (HNU.out _).mono ?_; rintro e w5 ⟨rfl, hb5⟩))
                        go_ret3
                        exact HR2.out _ (below_call hbr hb5 (Nat.le_refl _))
            · have hkp : (0 : Int) < (k : Int) := by omega
              have hkb : ((k : Int) == 0) = false := by simp; omega
              have hpo : pieceOk n k x.data.toList = tailOk x.data.toList := by unfold pieceOk; rw [if_neg hk0]
              rw [hpo] at HR HY
              have HTX := Lib.hid (fun W => trimS_calls x W (by omega))
              have HAX := Lib.hid (fun W (h : ErrS W) => atoiAny_calls x W (by omega) h)
              have hxl : x.data.toList.length = x.size := by simp
              obtain ⟨z0, B0, hzB⟩ : ∃ (z : Int) (B : Bool), numR x.data.toList 5 = .tuple #[.int .i64 z, .bool B] := ⟨_, _, rfl⟩
              rw [hzB] at HNU
              clear hzB hpo
              by_cases hx2 : x.size = 2
              · have hx2b : ((x.size : Int) == 2) = true := by simp; omega
                cases hd : x.data.toList.all isDig
                · have HR2 := Lib.hid (HR.out (by
                    unfold tailOk
                    rw [hd, Bool.and_false, Bool.false_and]))
                  have HT2 : Hid (∀ V, Calls Tryz.prog 15 #[.string x, .string ⟨#[48, 49, 50, 51, 52, 53, 54, 55, 56, 57]⟩] V (fun e w' => ∃ t : ByteArray, e = .returned (.string t) ∧ 0 < t.size ∧ Below V.heap.size V w')) :=
                    Lib.hid (fun V => (HTX.out V).mono (fun e w' ⟨t, h1, _, h3, h4⟩ => ⟨t, h1, h3 hd, h4⟩))
                  clear HR HY HTX hd hxl hx2
                  go_wp2_with (first
                    | (go_at_call 17; refine (HNU.out _).mono ?_; rintro e w5 ⟨rfl, hb5⟩)
                    | (go_at_call 15; refine (HT2.out _).mono ?_; rintro e w6 ⟨t, rfl, ht0, hb6⟩; have he1 := isEmpty_f (s := t) ht0; have he2 : (t.toList == []) = false := toL_ne ht0; have hE6 := (HM.out.2.below hb5).below hb6)
                    | (go_at_call 18; refine (HAX.out _ hE6).mono ?_; rintro e w7 ⟨z, ev, rfl, hz1, hz2, _, hb7⟩))
                  go_ret3
                  exact HR2.out _ (below_call (below_call (below_call hbr hb5 (Nat.le_refl _)) hb6 (Nat.le_refl _)) hb7 (Nat.le_refl _))
                · have HT2 : Hid (∀ V, Calls Tryz.prog 15 #[.string x, .string ⟨#[48, 49, 50, 51, 52, 53, 54, 55, 56, 57]⟩] V (fun e w' => e = .returned (.string ⟨#[]⟩) ∧ Below V.heap.size V w')) :=
                    Lib.hid (fun V => (HTX.out V).mono (fun e w' ⟨t, h1, h2, _, h4⟩ => ⟨by rw [h1, h2 hd], h4⟩))
                  have hne : x.data.toList ≠ [] := by
                    intro e; rw [e] at hxl; simp at hxl; omega
                  obtain ⟨v, hv⟩ : ∃ v : Nat, v = digV x.data.toList := ⟨_, rfl⟩
                  have HA2 : Hid (∀ W, ErrS W → Calls Tryz.prog 18 #[.string x] W (fun e w' => ∃ ev, e = .returned (.tuple #[.int .i64 (v : Int), ev]) ∧ Below W.heap.size W w')) := by
                    refine Lib.hid (fun W h => (HAX.out W h).mono ?_)
                    rintro e w' ⟨z, ev, rfl, _, _, h18, hb⟩
                    have := h18 (by omega) _ (dig_atoi hne hd)
                    exact ⟨ev, by rw [this, hv], hb⟩
                  have hdl := digV_lt x.data.toList hd
                  have hv100 : v < 100 := by
                    rw [hxl, hx2] at hdl
                    rw [hv]
                    exact hdl
                  by_cases h60 : v < 60
                  · obtain ⟨HV2, HO2⟩ := HY.out (tail_iff.2 ⟨by omega, hd, by omega⟩) (V * 60 + v) (by rw [hv])
                    have f1 : ¬ (v : Int) < 0 := by omega
                    have f2 : ¬ (60 : Int) ≤ (v : Int) := by omega
                    have hw1 : IntKind.i64.wrap ((V : Int) * 60) = (V : Int) * 60 := IntWalk.i64_in _ (by omega)
                    have hw2 : IntKind.i64.wrap ((V : Int) * 60 + (v : Int)) = (V : Int) * 60 + (v : Int) := IntWalk.i64_in _ (by omega)
                    clear HR HY HTX HAX hd hxl hx2 hne hv hdl hv100
                    go_wp2_with (first
                      | (go_at_call 17; refine (HNU.out _).mono ?_; rintro e w5 ⟨rfl, hb5⟩)
                      | (go_at_call 15; refine (HT2.out _).mono ?_; rintro e w6 ⟨rfl, hb6⟩; have hE6 := (HM.out.2.below hb5).below hb6)
                      | (go_at_call 18; refine (HA2.out _ hE6).mono ?_; rintro e w7 ⟨ev, rfl, hb7⟩))
                    have hbZ := below_call (below_call (below_call hbr hb5 (Nat.le_refl _)) hb6 (Nat.le_refl _)) hb7 (Nat.le_refl _)
                    have hkZ : Blk w7 G 9 (strCs P) := ((hkr.below hb5).below hb6).below hb7
                    clear hbr hb5 hb6 hb7 hkr hc HT2 HA2 HNU
                    go_roundw
                    case rel => exact ⟨k + 1, V * 60 + v, by omega, by go_num, by go_num, HV2, HO2, fun h => by omega, fun h => by omega, fun h => by (have := hv1 (by omega); omega), (by
                      have hk2 : k ≤ 2 := by omega
                      have := hv2 hk2
                      omega), hbZ, hkZ⟩
                    case measure => simp [intOf]; omega
                  · have HR2 := Lib.hid (HR.out (by
                      cases ht : tailOk x.data.toList with
                      | false => rfl
                      | true => have := (tail_iff.1 ht).2.2; omega))
                    have f1 : ¬ (v : Int) < 0 := by omega
                    have f2 : (60 : Int) ≤ (v : Int) := by omega
                    clear HR HY HTX HAX hd hxl hx2 hne hv hdl hv100 h60
                    go_wp2_with (first
                      | (go_at_call 17; refine (HNU.out _).mono ?_; rintro e w5 ⟨rfl, hb5⟩)
                      | (go_at_call 15; refine (HT2.out _).mono ?_; rintro e w6 ⟨rfl, hb6⟩; have hE6 := (HM.out.2.below hb5).below hb6)
                      | (go_at_call 18; refine (HA2.out _ hE6).mono ?_; rintro e w7 ⟨ev, rfl, hb7⟩))
                    go_ret3
                    exact HR2.out _ (below_call (below_call (below_call hbr hb5 (Nat.le_refl _)) hb6 (Nat.le_refl _)) hb7 (Nat.le_refl _))
              · have hx2b : ((x.size : Int) == 2) = false := by simp; omega
                have HR2 := Lib.hid (HR.out (by
                  unfold tailOk
                  rw [decide_eq_false (by omega), Bool.false_and, Bool.false_and]))
                clear HR HY HTX hxl hx2
                go_wp2_with (first
                  | (go_at_call 17; refine (HNU.out _).mono ?_; rintro e w5 ⟨rfl, hb5⟩; have hE6 := HM.out.2.below hb5)
                  | (go_at_call 18; refine (HAX.out _ hE6).mono ?_; rintro e w7 ⟨z, ev, rfl, hz1, hz2, _, hb7⟩))
                go_ret3
                exact HR2.out _ (below_call (below_call hbr hb5 (Nat.le_refl _)) hb7 (Nat.le_refl _))
          · obtain rfl : k = n := by omega
            have hall : progOk L = true := prog_all HL0.out (fun j hj => by
              have := HO.out j hj (by rw [← HLN.out]; exact hj)
              rw [HLN.out]; exact this)
            have hVL : V = foldV L := by
              have := HV.out
              rwa [List.take_of_length_le (by rw [HLN.out]; exact Nat.le_refl _)] at this
            obtain ⟨hpd, hp3⟩ := HFD.out
            obtain ⟨hfa, hfl⟩ := frac_atoi hpd
            have hpok : parseOk l = true := by rw [HF.out, hall]
            obtain ⟨f, hf⟩ : ∃ f, f = fracV pa.data.toList := ⟨_, rfl⟩
            have hpn : parseN l = V * 1000 + f := by rw [HN.out, ← hVL, hf]
            have HBIG : Hid (864000000 < V * 1000 + f → ∀ w', Below w.heap.size w w' → ParR l w (.returned (.tuple #[.int .i64 0, .int .i64 0, .int .i64 1])) w') := Lib.hid (fun h w' hb => ParR.big hpok (by rw [hpn]; exact h) hb)
            have HYES : Hid (¬ 864000000 < V * 1000 + f → ∀ w', Below w.heap.size w w' → ParR l w (.returned (.tuple #[.int .i64 ((V * 1000 + f : Nat) : Int), .int .i64 pa.size, .int .i64 0])) w') := by
              refine Lib.hid (fun h w' hb => ?_)
              have := ParR.yes hpok (by rw [hpn]; exact h) hb
              rw [hpn, HPL.out] at this
              exact this
            obtain ⟨q, hq⟩ : ∃ q : ByteArray, q = (sumS pa ⟨#[48, 48, 48]⟩).extract 0 3 := ⟨_, rfl⟩
            have hqd : q.data.toList = frq pa.data.toList := by
              rw [hq, Lib.extract_from_zero, sumS_data]; rfl
            have hqs : q.size = 3 := by
              have h1 := frq_len pa.data.toList
              rw [← hqd] at h1
              simpa using h1
            have HAQ : Hid (∀ W, ErrS W → Calls Tryz.prog 18 #[.string ((sumS pa ⟨#[48, 48, 48]⟩).extract 0 3)] W (fun e w' => ∃ ev, e = .returned (.tuple #[.int .i64 (f : Int), ev]) ∧ Below W.heap.size W w')) := by
              rw [← hq]
              refine Lib.hid (fun W h => (atoiAny_calls q W (by omega) h).mono ?_)
              rintro e w' ⟨z, ev, rfl, _, _, h18, hb⟩
              have := h18 (by omega) _ (by rw [hqd]; exact hfa)
              exact ⟨ev, by rw [this, hf], hb⟩
            have a1 : AddOk pa ⟨#[48, 48, 48]⟩ := addOk_of (by omega) (by decide)
            have hsz3 : 3 ≤ (sumS pa ⟨#[48, 48, 48]⟩).size := by rw [sumS_size]; show 3 ≤ pa.size + 3; omega
            have hfb : f < 1000 := by rw [hf]; exact hfl
            have hw1 : IntKind.i64.wrap ((V : Int) * 1000) = (V : Int) * 1000 := IntWalk.i64_in _ (by omega)
            have hw2 : IntKind.i64.wrap ((V : Int) * 1000 + (f : Int)) = (V : Int) * 1000 + (f : Int) := IntWalk.i64_in _ (by omega)
            have HM2 := Lib.hid HM.out.2
            clear hall hVL hpd hp3 hfa hfl hpok hf hpn hq hqd hqs HF HN HFD HNP HPL HV HO HPS HNK HLN HL0 hv0 hv1 hv2 HM
            by_cases hbig : 864000000 < V * 1000 + f
            · have hbi : (864000000 : Int) < (V : Int) * 1000 + (f : Int) := by omega
              have HB2 := Lib.hid (HBIG.out hbig)
              clear HBIG HYES hbig
              go_wp2_with (first | (go_at_call 18; refine (HAQ.out _ HM2.out).mono ?_; rintro e w7 ⟨ev, rfl, hb7⟩))
              go_ret3
              exact HB2.out _ (below_call hbr hb7 (Nat.le_refl _))
            · have hbi : ¬ (864000000 : Int) < (V : Int) * 1000 + (f : Int) := by omega
              have HB2 := Lib.hid (HYES.out hbig)
              clear HBIG HYES hbig
              go_wp2_with (first | (go_at_call 18; refine (HAQ.out _ HM2.out).mono ?_; rintro e w7 ⟨ev, rfl, hb7⟩))
              go_ret3
              exact HB2.out _ (below_call hbr hb7 (Nat.le_refl _))
end Go.Proofs.YtipbhgefcmekpaaGreatDoor

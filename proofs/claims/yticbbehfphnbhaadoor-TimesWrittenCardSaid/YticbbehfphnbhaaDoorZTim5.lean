/-
  splitref2.ParsedOf by its contract: it answers as timer.Parse does.
-/
import Derived.Test.YticbbehfphnbhaaDoorZTim4
namespace Go.Proofs.YticbbehfphnbhaaDoor
open Go Go.RowKit TxtP
attribute [local go_sem ↓ high] run_sumS

theorem ref_no {L : List (List UInt8)} {j : Nat} (hj : j < L.length) (h : (decide (1 ≤ L[j].length ∧ L[j].length ≤ 5) && L[j].all isDig) = false) : refOk L = false := by
  unfold refOk
  rw [List.all_eq_false]
  exact ⟨L[j], List.getElem_mem _, by rw [h]; decide⟩
theorem ref_all {L : List (List UInt8)} (h : ∀ j (hj : j < L.length), (decide (1 ≤ L[j].length ∧ L[j].length ≤ 5) && L[j].all isDig) = true) : refOk L = true := by
  unfold refOk
  rw [List.all_eq_true]
  intro x hx
  obtain ⟨j, hj, rfl⟩ := List.getElem_of_mem hx
  exact h j hj
theorem toL_neq {a b : ByteArray} (h : ¬ a = b) : (a.toList == b.toList) = false := by
  rw [Lib.toList_data, Lib.toList_data]
  have : ¬ a.data.toList = b.data.toList := by
    intro e
    apply h
    cases a; cases b; simp at e; rw [e]
  simpa using this
set_option maxRecDepth 100000 in
set_option maxHeartbeats 4000000 in
theorem parsedOf_calls (s : ByteArray) (w : World) (hs : s.size ≤ 10000) (hx : MxL w) (ht : Tab w) : Calls Tryd.prog 16 #[.string s] w (ParR s.data.toList w) := by
  have hsl : s.data.toList.length = s.size := by simp
  have HCU := Lib.hid (cut_calls s w (by omega) hx)
  obtain ⟨hl1, hl2⟩ := cutL_len s.data.toList
  have hno := (cutL_back s.data.toList).2
  have hpr := fun h1 h2 => parse_ref (l := s.data.toList) h1 h2
  obtain ⟨l, hl⟩ : ∃ l, l = s.data.toList := ⟨_, rfl⟩
  rw [← hl] at HCU hl1 hl2 hno hsl hpr ⊢
  obtain ⟨wh, hwh⟩ : ∃ wh : ByteArray, wh = ⟨(cutL l).1.toArray⟩ := ⟨_, rfl⟩
  obtain ⟨pa, hpa⟩ : ∃ pa : ByteArray, pa = ⟨(cutL l).2.1.toArray⟩ := ⟨_, rfl⟩
  obtain ⟨pt, hpt⟩ : ∃ pt, pt = (cutL l).2.2 := ⟨_, rfl⟩
  have hwl : wh.data.toList = (cutL l).1 := by rw [hwh]
  have hpl : pa.data.toList = (cutL l).2.1 := by rw [hpa]
  have hws : wh.size ≤ 10000 := by rw [hwh, ba_size]; omega
  have hps : pa.size ≤ 10000 := by rw [hpa, ba_size]; omega
  have hpln : pa.data.toList.length = pa.size := by simp
  rw [← hwh, ← hpa, ← hpt] at HCU
  rw [← hpt, ← hpl, ← hwl, hpln] at hpr
  have HPR := Lib.hid hpr
  have HF : Hid (parseOk l = (fracOk pt pa.data.toList && decide ((spl 58 wh.data.toList).length ≤ 3) && progOk (spl 58 wh.data.toList))) := by
    refine Lib.hid ?_
    unfold parseOk
    rw [hpl, hwl, hpt]
  have HN : Hid (parseN l = foldV (spl 58 wh.data.toList) * 1000 + fracV pa.data.toList) := by
    refine Lib.hid ?_
    unfold parseN
    rw [hpl, hwl]
  have HNP : Hid (pt = false → pa.data.toList = []) := Lib.hid (fun h => by rw [hpl]; exact hno (by rw [← hpt]; exact h))
  have HPL : Hid ((cutL l).2.1.length = pa.size) := Lib.hid (by rw [← hpl]; exact hpln)
  have HSL : Hid (∀ m : List UInt8, (⟨m.toArray⟩ : ByteArray) = s ↔ m = l) := by
    refine Lib.hid (fun m => ?_)
    rw [hl]
    constructor
    · intro e; rw [← e]
    · intro e; rw [e]
  have HSP := Lib.hid (fun V (h : MxL V) => split_calls wh 58 V (by omega) h)
  have HON := Lib.hid (fun V => only_calls pa ⟨digitsL.toArray⟩ V (by unfold maxLen; omega))
  rw [ba_list, only_digits] at HON
  have HXE := Lib.hid (And.intro hx ht)
  obtain ⟨P, hP⟩ : ∃ P, P = pcs 58 wh := ⟨_, rfl⟩
  have hPd := pcs_data 58 wh
  obtain ⟨L, hL⟩ : ∃ L, L = spl 58 wh.data.toList := ⟨_, rfl⟩
  rw [← hP, ← hL] at hPd
  have hle := pcs_le 58 wh
  unfold SplR at HSP
  rw [← hP] at HSP hle
  rw [← hL] at HF HN HPR
  obtain ⟨n, hn⟩ : ∃ n, n = P.length := ⟨_, rfl⟩
  rw [← hn] at HSP hle
  have hLn : L.length = n := by rw [hn, ← hPd, List.length_map]
  have HPS : Hid (∀ k (h : k < P.length), P[k].size ≤ 10000 ∧ ∀ h2 : k < L.length, P[k].data.toList = L[k]) := by
    refine Lib.hid (fun k h => ⟨?_, fun h2 => ?_⟩)
    · have := pcs_size (c := 58) (s := wh) (x := P[k]) (by rw [← hP]; exact List.getElem_mem h)
      omega
    · have h4 : (P.map (·.data.toList))[k]? = some L[k] := by rw [hPd, List.getElem?_eq_getElem h2]
      rw [List.getElem?_map, List.getElem?_eq_getElem h] at h4
      exact Option.some.inj h4
  have HNK := Lib.hid hn
  have HLN := Lib.hid hLn
  have HLS := Lib.hid hsl
  clear hwh hpa hpt hwl hpl hl1 hl2 hno hsl hs hx ht hpr hl hPd hP hL hn hLn
  go_enter Tryd.func16, Tryd.ntmps16
  go_upto_region 2 with (first | (go_at_call 25; refine HCU.out.mono ?_; rintro e w1 ⟨rfl, n1, rfl⟩))
  obtain ⟨W1, hW1, hb1⟩ : ∃ W1, W1 = w.drewN n1 ∧ Below w.heap.size w W1 := ⟨_, rfl, below_drewN (Below.refl _ _) n1⟩
  rw [← hW1]
  clear hW1
  obtain ⟨G, hG⟩ : ∃ G, G = W1.heap.size := ⟨_, rfl⟩
  have HSP3 : Hid (Calls Tryd.prog 27 #[.string wh, .string ⟨#[58]⟩] W1 (fun e w' => e = .returned (.slice (some ⟨G, 0, none⟩) n n) ∧ Below W1.heap.size W1 w' ∧ Blk w' G 9 (strCs P))) := by
    rw [hG]; exact Lib.hid (HSP.out W1 (HXE.out.1.below hb1))
  clear hG HSP HCU
  go_upto_region 3 with (first | (go_at_call 27; refine HSP3.out.mono ?_; rintro e w4 ⟨rfl, hb4, hk4⟩))
  have hb5 := below_call hb1 hb4 (Nat.le_refl _)
  clear hb4 HSP3 hb1
  obtain ⟨NB, hNB⟩ : ∃ NB, NB = (!(fracOk pt pa.data.toList && decide (n ≤ 3))) := ⟨_, rfl⟩
  have HNB := Lib.hid hNB
  clear hNB
  go_cut [40] (fun s40 V => s40 = .bool NB ∧ V = w4)
  case first =>
    clear HF HN HPL HPR HPS HNK HLN
    have hn3 : ∀ F : Bool, F = true → (decide ((3 : Int) < (n : Int))) = !(F && decide (n ≤ 3)) := by
      intro F hF
      rw [hF, Bool.true_and]
      by_cases h : n ≤ 3
      · rw [decide_eq_true h, decide_eq_false (by omega)]; rfl
      · rw [decide_eq_false h, decide_eq_true (by omega)]; rfl
    have HN3 := Lib.hid hn3
    clear hn3
    cases pt
    · have hf : Hid (fracOk false pa.data.toList = true) := Lib.hid rfl
      clear HNP HON
      go_wp2_with fail
      go_meet
      exact ⟨congrArg Value.bool ((HN3.out _ hf.out).trans HNB.out.symm), rfl⟩
    · have hf : fracOk true pa.data.toList = (!outB (pa.size : Int) 1 3 && pa.data.toList.all isDig) := by
        unfold fracOk
        have hout : outB (pa.size : Int) 1 3 = !decide (1 ≤ pa.data.toList.length ∧ pa.data.toList.length ≤ 3) := by
          unfold outB
          rw [hpln]
          by_cases h : 1 ≤ pa.size ∧ pa.size ≤ 3
          · rw [decide_eq_true h, decide_eq_false (by omega)]; rfl
          · rw [decide_eq_false h, decide_eq_true (by omega)]; rfl
        rw [hout, Bool.not_not, Bool.not_true, Bool.false_or]
      clear HNP
      cases ho : outB (pa.size : Int) 1 3
      · rw [ho, Bool.not_false, Bool.true_and] at hf
        cases hd : pa.data.toList.all isDig
        · rw [hd] at hf HON
          have HFF := Lib.hid hf
          clear hf hd
          go_wp2_with (first
            | (go_at_call 32; refine (in_calls _ _ _ _).mono ?_; rintro e w5 ⟨rfl, rfl⟩; rw [ho])
            | (go_at_call 33; refine (HON.out _).mono ?_; rintro e w6 ⟨rfl, rfl⟩))
          go_meet
          exact ⟨by rw [HNB.out, HFF.out]; rfl, rfl⟩
        · rw [hd] at hf HON
          have HFF := Lib.hid hf
          clear hf hd
          go_wp2_with (first
            | (go_at_call 32; refine (in_calls _ _ _ _).mono ?_; rintro e w5 ⟨rfl, rfl⟩; rw [ho])
            | (go_at_call 33; refine (HON.out _).mono ?_; rintro e w6 ⟨rfl, rfl⟩))
          go_meet
          exact ⟨congrArg Value.bool ((HN3.out _ HFF.out).trans HNB.out.symm), rfl⟩
      · rw [ho, Bool.not_true, Bool.false_and] at hf
        have HFF := Lib.hid hf
        clear hf HON
        go_wp2_with (first
          | (go_at_call 32; refine (in_calls _ _ _ _).mono ?_; rintro e w5 ⟨rfl, rfl⟩; rw [ho]))
        go_meet
        exact ⟨by rw [HNB.out, HFF.out]; rfl, rfl⟩
  case rest =>
    obtain ⟨rfl, rfl⟩ := hcut
    clear HON
    have hfr : (fracOk pt pa.data.toList && decide (n ≤ 3)) = !NB := by rw [HNB.out, Bool.not_not]
    clear HNB
    cases NB
    rotate_left
    · rw [Bool.not_true] at hfr
      have HR : Hid (∀ w', Below w.heap.size w w' → ParR l w (.returned (.tuple #[.int .i64 0, .int .i64 0, .int .i64 9])) w') := Lib.hid (fun w' h => ParR.no (by rw [HF.out, HLN.out, hfr, Bool.false_and]) h)
      clear HF HN HPL HNP HPR HPS hfr
      go_wp2_with fail
      go_ret3
      exact HR.out _ hb5
    · rw [Bool.not_false, Bool.and_eq_true, decide_eq_true_iff] at hfr
      obtain ⟨hfr, h3⟩ := hfr
      have HFD := Lib.hid (fracOk_dig hfr HNP.out)
      have HPR2 := Lib.hid (HPR.out hfr (by rw [HLN.out]; exact h3))
      have HF2 : Hid (parseOk l = progOk L) := Lib.hid (by rw [HF.out, HLN.out, hfr, decide_eq_true h3]; rfl)
      clear HF HPR hfr HNP
      go_wp2_with fail
      go_loopw [9, 43] (fun tm i wr => ∃ k V : Nat, k ≤ n ∧ i = .int .i64 k ∧ tm = .int .i64 V ∧ Hid (V = foldV (L.take k)) ∧ Hid (∀ j (h : j < L.length), j < k → (decide (1 ≤ L[j].length ∧ L[j].length ≤ 5) && L[j].all isDig) = true) ∧ (k = 0 → V = 0) ∧ (k ≤ 1 → V < 100000) ∧ (k ≤ 2 → V < 6100000) ∧ V < 367000000 ∧ Below w.heap.size w wr ∧ Blk wr G 9 (strCs P)) (fun _ i _ => n - (intOf i).toNat)
      case atStart => exact ⟨0, 0, Nat.zero_le _, rfl, rfl, Lib.hid (by rw [List.take_zero]; rfl), Lib.hid (fun j h hj => by omega), fun _ => rfl, fun _ => by omega, fun _ => by omega, by omega, hb5, hk4⟩
      case round =>
        clear hb5 hk4
        obtain ⟨k, V, hk, rfl, rfl, HV, HO, hv0, hv1, hv2, hv3, hbr, hkr⟩ := hrel
        by_cases hlt : k < n
        · have hkP : k < P.length := by rw [← HNK.out]; exact hlt
          have hkL : k < L.length := by rw [HLN.out]; exact hlt
          have hc := (hkr.cell k).trans (strCs_at hkP)
          obtain ⟨hxz, hxd0⟩ := HPS.out k hkP
          have hxd := hxd0 hkL
          obtain ⟨x, hx⟩ : ∃ x, x = P[k] := ⟨_, rfl⟩
          rw [← hx] at hc hxz hxd
          have hxl : x.data.toList.length = x.size := by simp
          have HOX := Lib.hid (fun W => only_calls x ⟨digitsL.toArray⟩ W (by unfold maxLen; omega))
          rw [ba_list, only_digits] at HOX
          have HR : Hid ((decide (1 ≤ x.data.toList.length ∧ x.data.toList.length ≤ 5) && x.data.toList.all isDig) = false → ∀ w', Below w.heap.size w w' → ParR l w (.returned (.tuple #[.int .i64 0, .int .i64 0, .int .i64 9])) w') := by
            refine Lib.hid (fun h w' hb => ParR.no ?_ hb)
            rw [HF2.out]
            have h1 : refOk L = false := ref_no hkL (by rw [← hxd]; exact h)
            cases hp : progOk L with
            | false => rfl
            | true => have := (HPR2.out.2 hp).1; rw [h1] at this; cases this
          have HY : Hid ((decide (1 ≤ x.data.toList.length ∧ x.data.toList.length ≤ 5) && x.data.toList.all isDig) = true → ∀ V2, V2 = V * 60 + digV x.data.toList → Hid (V2 = foldV (L.take (k + 1))) ∧ Hid (∀ j (h : j < L.length), j < k + 1 → (decide (1 ≤ L[j].length ∧ L[j].length ≤ 5) && L[j].all isDig) = true)) := by
            refine Lib.hid (fun h V2 hV2 => ⟨Lib.hid ?_, Lib.hid (fun j hj hjk => ?_)⟩)
            · rw [fold_step hkL, ← HV.out, ← hxd, hV2]
            · by_cases e : j = k
              · subst e; rw [← hxd]; exact h
              · exact HO.out j hj (by omega)
          have hout : outB (x.size : Int) 1 5 = !decide (1 ≤ x.data.toList.length ∧ x.data.toList.length ≤ 5) := by
            unfold outB
            rw [hxl]
            by_cases h : 1 ≤ x.size ∧ x.size ≤ 5
            · rw [decide_eq_true h, decide_eq_false (by omega)]; rfl
            · rw [decide_eq_false h, decide_eq_true (by omega)]; rfl
          clear hxd0 hxd hx HN HFD HPL HV HO HPR2 HF2
          by_cases hlen : 1 ≤ x.data.toList.length ∧ x.data.toList.length ≤ 5
          · rw [decide_eq_true hlen, Bool.not_true] at hout
            rw [decide_eq_true hlen, Bool.true_and] at HR HY
            cases hd : x.data.toList.all isDig
            · rw [hd] at HOX
              have HR2 := Lib.hid (HR.out hd)
              clear HR HY hd hlen hxl
              go_wp2_with (first
                | (go_at_call 32; refine (in_calls _ _ _ _).mono ?_; rintro e w5 ⟨rfl, rfl⟩; rw [hout])
                | (go_at_call 33; refine (HOX.out _).mono ?_; rintro e w6 ⟨rfl, rfl⟩))
              go_ret3
              exact HR2.out _ hbr
            · rw [hd] at HOX
              have hne : x.data.toList ≠ [] := by intro e; rw [e] at hlen; simp at hlen
              obtain ⟨v, hv⟩ : ∃ v : Nat, v = digV x.data.toList := ⟨_, rfl⟩
              have HAT := Lib.hid (fun W => Tryd.strconv_Atoi x (v : Int) (by omega) (by rw [hv]; exact dig_atoi hne hd) W)
              have hdl := digV_lt x.data.toList hd
              have hv5 : v < 100000 := by
                rw [hv]
                exact Nat.lt_of_lt_of_le hdl (Nat.le_trans (Nat.pow_le_pow_right (by decide) hlen.2) (by decide))
              obtain ⟨HV2, HO2⟩ := HY.out hd (V * 60 + v) (by rw [hv])
              have hw0 : IntKind.i64.wrap (60 * (V : Int)) = 60 * (V : Int) := IntWalk.i64_in _ (by omega)
              have hw2 : IntKind.i64.wrap (60 * (V : Int) + (v : Int)) = 60 * (V : Int) + (v : Int) := IntWalk.i64_in _ (by omega)
              clear HR HY hd hlen hxl hne hv hdl
              go_wp2_with (first
                | (go_at_call 32; refine (in_calls _ _ _ _).mono ?_; rintro e w5 ⟨rfl, rfl⟩; rw [hout])
                | (go_at_call 33; refine (HOX.out _).mono ?_; rintro e w6 ⟨rfl, rfl⟩)
                | (go_at_call 29; refine (HAT.out _).mono ?_; rintro e w7 ⟨rfl, hb7⟩; have hb8 := bytes_below hb7))
              have hbZ := below_call hbr hb8 (Nat.le_refl _)
              have hkZ : Blk w7 G 9 (strCs P) := hkr.below hb8
              clear hbr hb7 hb8 hkr hc HAT HOX
              go_roundw
              case rel => exact ⟨k + 1, V * 60 + v, by omega, by go_num, by go_num, HV2, HO2, fun h => by omega, fun h => by (have := hv0 (by omega); omega), fun h => by (have := hv1 (by omega); omega), (by
                have hk2 : k ≤ 2 := by omega
                have := hv2 hk2
                omega), hbZ, hkZ⟩
              case measure => simp [intOf]; omega
          · rw [decide_eq_false hlen, Bool.not_false] at hout
            rw [decide_eq_false hlen, Bool.false_and] at HR
            have HR2 := Lib.hid (HR.out rfl)
            clear HR HY HOX hlen hxl
            go_wp2_with (first
              | (go_at_call 32; refine (in_calls _ _ _ _).mono ?_; rintro e w5 ⟨rfl, rfl⟩; rw [hout]))
            go_ret3
            exact HR2.out _ hbr
        · obtain rfl : k = n := by omega
          have hall : refOk L = true := ref_all (fun j hj => HO.out j hj (by rw [← HLN.out]; exact hj))
          have hVL : V = foldV L := by
            have := HV.out
            rwa [List.take_of_length_le (by rw [HLN.out]; exact Nat.le_refl _)] at this
          obtain ⟨hpd, hp3⟩ := HFD.out
          obtain ⟨hfa, hfl⟩ := frac_atoi hpd
          obtain ⟨f, hf⟩ : ∃ f, f = fracV pa.data.toList := ⟨_, rfl⟩
          have hpn : parseN l = V * 1000 + f := by rw [HN.out, ← hVL, hf]
          have hprg : (writeT (V * 1000 + f) pa.size = l) ↔ progOk L = true := by
            rw [← HPR2.out, hpn]
            exact ⟨fun h => ⟨hall, h⟩, fun h => h.2⟩
          obtain ⟨X, hX⟩ : ∃ X : ByteArray, X = ⟨(writeT (V * 1000 + f) pa.size).toArray⟩ := ⟨_, rfl⟩
          have HXS : Hid (X = s ↔ progOk L = true) := Lib.hid (by rw [hX, HSL.out]; exact hprg)
          have HWR := Lib.hid (fun W (h : Tab W) => written_calls (V * 1000 + f) pa.size (by omega) (by omega) W h)
          rw [← hX] at HWR
          have HBIG : Hid (progOk L = true → 864000000 < V * 1000 + f → ∀ w', Below w.heap.size w w' → ParR l w (.returned (.tuple #[.int .i64 0, .int .i64 0, .int .i64 1])) w') := Lib.hid (fun h0 h w' hb => ParR.big (by rw [HF2.out]; exact h0) (by rw [hpn]; exact h) hb)
          have HNOK : Hid (progOk L = false → ∀ w', Below w.heap.size w w' → ParR l w (.returned (.tuple #[.int .i64 0, .int .i64 0, .int .i64 9])) w') := Lib.hid (fun h0 w' hb => ParR.no (by rw [HF2.out]; exact h0) hb)
          have HYES : Hid (progOk L = true → ¬ 864000000 < V * 1000 + f → ∀ w', Below w.heap.size w w' → ParR l w (.returned (.tuple #[.int .i64 ((V * 1000 + f : Nat) : Int), .int .i64 pa.size, .int .i64 0])) w') := by
            refine Lib.hid (fun h0 h w' hb => ?_)
            have := ParR.yes (by rw [HF2.out]; exact h0) (by rw [hpn]; exact h) hb
            rw [hpn, HPL.out] at this
            exact this
          obtain ⟨q, hq⟩ : ∃ q : ByteArray, q = (sumS pa ⟨#[48, 48, 48]⟩).extract 0 3 := ⟨_, rfl⟩
          have hqd : q.data.toList = frq pa.data.toList := by
            rw [hq, Lib.extract_from_zero, sumS_data]; rfl
          have hqs : q.size = 3 := by
            have h1 := frq_len pa.data.toList
            rw [← hqd] at h1
            simpa using h1
          have HAQ : Hid (∀ W, Calls Tryd.prog 29 #[.string ((sumS pa ⟨#[48, 48, 48]⟩).extract 0 3)] W (fun e w' => e = .returned (.tuple #[.int .i64 (f : Int), .nilIface]) ∧ ∃ t, w' = Lib.bytesWorld W 5 t)) := by
            rw [← hq]
            exact Lib.hid (fun W => Tryd.strconv_Atoi q (f : Int) (by omega) (by rw [hqd, hf]; exact hfa) W)
          have a1 : AddOk pa ⟨#[48, 48, 48]⟩ := addOk_of (by omega) (by decide)
          have hsz3 : 3 ≤ (sumS pa ⟨#[48, 48, 48]⟩).size := by rw [sumS_size]; show 3 ≤ pa.size + 3; omega
          have hfb : f < 1000 := by rw [hf]; exact hfl
          have hw1 : IntKind.i64.wrap ((V : Int) * 1000) = (V : Int) * 1000 := IntWalk.i64_in _ (by omega)
          have hw2 : IntKind.i64.wrap ((V : Int) * 1000 + (f : Int)) = (V : Int) * 1000 + (f : Int) := IntWalk.i64_in _ (by omega)
          have HTB : Hid (∀ W, Below wr.heap.size wr W → Tab W) := Lib.hid (fun W h => HXE.out.2.below (below_call hbr h (Nat.le_refl _)))
          obtain ⟨PO, hPO⟩ : ∃ PO, PO = progOk L := ⟨_, rfl⟩
          rw [← hPO] at HXS HBIG HNOK HYES
          have hvf : ((V * 1000 + f : Nat) : Int) = (V : Int) * 1000 + (f : Int) := by omega
          rw [hvf] at HWR HYES
          clear hall hVL hpd hp3 hfa hfl hf hpn hq hqd hqs HF2 HN HFD HPL HV HO HPS HNK HLN HPR2 hv0 hv1 hv2 hprg hX HSL hPO hvf
          cases PO
          · have hXn : (X.toList == s.toList) = false := toL_neq (fun e => by have := HXS.out.1 e; cases this)
            have HB2 := Lib.hid (HNOK.out rfl)
            clear HBIG HYES HNOK HXS
            go_wp2_with (first
              | (go_at_call 29; refine (HAQ.out _).mono ?_; rintro e w7 ⟨rfl, hb70⟩; have hb7 := bytes_below hb70; have ht7 := HTB.out _ hb7)
              | (go_at_call 14; refine (HWR.out _ ht7).mono ?_; rintro e w8 ⟨rfl, hb8⟩))
            go_ret3
            exact HB2.out _ (below_call (below_call hbr hb7 (Nat.le_refl _)) hb8 (Nat.le_refl _))
          · have hXs : X = s := HXS.out.2 rfl
            have hXn : (s.toList == s.toList) = true := by simp
            rw [hXs] at HWR
            clear HXS HNOK hXs
            by_cases hbig : 864000000 < V * 1000 + f
            · have hbi : (864000000 : Int) < (V : Int) * 1000 + (f : Int) := by omega
              have HB2 := Lib.hid (HBIG.out rfl hbig)
              clear HBIG HYES hbig
              go_wp2_with (first
                | (go_at_call 29; refine (HAQ.out _).mono ?_; rintro e w7 ⟨rfl, hb70⟩; have hb7 := bytes_below hb70; have ht7 := HTB.out _ hb7)
                | (go_at_call 14; refine (HWR.out _ ht7).mono ?_; rintro e w8 ⟨rfl, hb8⟩))
              go_ret3
              exact HB2.out _ (below_call (below_call hbr hb7 (Nat.le_refl _)) hb8 (Nat.le_refl _))
            · have hbi : ¬ (864000000 : Int) < (V : Int) * 1000 + (f : Int) := by omega
              have HB2 := Lib.hid (HYES.out rfl hbig)
              clear HBIG HYES hbig
              go_wp2_with (first
                | (go_at_call 29; refine (HAQ.out _).mono ?_; rintro e w7 ⟨rfl, hb70⟩; have hb7 := bytes_below hb70; have ht7 := HTB.out _ hb7)
                | (go_at_call 14; refine (HWR.out _ ht7).mono ?_; rintro e w8 ⟨rfl, hb8⟩))
              go_ret3
              exact HB2.out _ (below_call (below_call hbr hb7 (Nat.le_refl _)) hb8 (Nat.le_refl _))
end Go.Proofs.YticbbehfphnbhaaDoor

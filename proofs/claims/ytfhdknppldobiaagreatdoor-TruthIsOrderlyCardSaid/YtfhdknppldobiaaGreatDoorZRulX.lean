/-
  The stream's RightRule by a contract that keeps a property of strings: rules that are put together of parts.
-/
import Derived.Test.YtfhdknppldobiaaGreatDoorZRulS
import Derived.Test.YtfhdknppldobiaaGreatDoorZGrm4
import Derived.Deep.DeepCutAuto
namespace Go.Proofs.YtfhdknppldobiaaGreatDoor
open Go Go.RowKit TxtP

def IsStrP (P : ByteArray → Prop) (v : Value) : Prop := ∃ z : ByteArray, v = .string z ∧ P z
theorem sp_someP {w W : World} {b K : Nat} {l : List Rsc} (P : ByteArray → Prop) (h : Sp w b K W l) (cs : Array Value) (t : TypeId) (n : Nat) (h0 : 0 < n) (hn : n ≤ maxLen) (hs : cs.size = n) (hx : ∀ v ∈ cs.toList, IsStrP P v) (hK : K ≤ 10000000) :
    Calls Tryz.prog 23 #[.pointer (some ⟨b, 0, none⟩), .slice (some ⟨W.heap.size, 0, none⟩) n n] (W.alloc (.cells cs t)) (SpS (IsStrP P) w b (K + 1) l) :=
  (some_calls b K _ n n cs.toList _ h0 (blkRd 1 n ((h.add cs t).nth 0 rfl) ((h.add cs t).ne 0 rfl) hn (by omega)) (fun x hx' => by obtain ⟨z, hz, _⟩ := hx x hx'; exact ⟨z, hz⟩) (h.add cs t).strm hK).mono (fun e w' ⟨v, he, h1, hs, hb⟩ => ⟨_, he, hx v h1, ((h.add cs t).call hs hb).tail⟩)
def tenV : List Value := [.string ⟨#[97, 32, 61, 32, 120]⟩, .string ⟨#[97, 61, 121]⟩, .string ⟨#[98, 32, 61, 32, 120]⟩, .string ⟨#[104, 97, 115, 32, 97]⟩, .string ⟨#[104, 97, 115, 32, 98]⟩, .string ⟨#[104, 97, 115, 32, 99]⟩, .string ⟨#[116, 105, 109, 101, 32, 60, 32, 53, 48, 48]⟩, .string ⟨#[116, 105, 109, 101, 32, 62, 32, 53, 48, 48]⟩, .string ⟨#[116, 114, 117, 101]⟩, .string ⟨#[99, 32, 61, 32, 49, 46, 50]⟩]
def OpS (o : ByteArray) : Prop := o.data.toList = [32, 97, 110, 100, 32] ∨ o.data.toList = [32, 111, 114, 32] ∨ o.data.toList = [32, 32, 97, 110, 100, 32]
theorem opS_ok : ∀ v ∈ (#[.string ⟨#[32, 97, 110, 100, 32]⟩, .string ⟨#[32, 111, 114, 32]⟩, .string ⟨#[32, 32, 97, 110, 100, 32]⟩] : Array Value).toList, IsStrP OpS v := by
  intro v hv
  simp at hv
  rcases hv with rfl | rfl | rfl
  · exact ⟨_, rfl, .inl rfl⟩
  · exact ⟨_, rfl, .inr (.inl rfl)⟩
  · exact ⟨_, rfl, .inr (.inr rfl)⟩
theorem opS_size {o : ByteArray} (h : OpS o) : o.size ≤ 16 := by
  have e : o.data.toList.length = o.size := by simp
  rcases h with h | h | h <;> (rw [h] at e; simp at e; omega)
/-- a property that the parts of rules hand on -/
structure RuP (P : Nat → ByteArray → Prop) : Prop where
  ten : ∀ d, ∀ v ∈ tenV, IsStrP (P d) v
  sz : ∀ d x, d ≤ 4 → P d x → x.size ≤ 3000
  par : ∀ d x y, d ≤ 3 → P d x → y.data.toList = [40] ++ x.data.toList ++ [41] → P (d + 1) y
  not : ∀ d x y, d ≤ 3 → P d x → y.data.toList = [110, 111, 116, 32] ++ x.data.toList → P (d + 1) y
  nor : ∀ d x y z, d ≤ 3 → P d x → P d y → z.data.toList = [110, 111, 116, 32, 40] ++ x.data.toList ++ [32, 111, 114, 32] ++ y.data.toList ++ [41] → P (d + 1) z
  two : ∀ d x y t z, d ≤ 3 → P d x → P d y → P d t → z.data.toList = [40] ++ x.data.toList ++ [32, 111, 114, 32] ++ y.data.toList ++ [41, 32, 97, 110, 100, 32] ++ t.data.toList → P (d + 1) z
  op : ∀ d x o y z, d ≤ 3 → P d x → OpS o → P d y → z.data.toList = x.data.toList ++ o.data.toList ++ y.data.toList → P (d + 1) z
set_option maxRecDepth 100000 in
set_option maxHeartbeats 2000000 in
theorem rightRuleP_calls (P : Nat → ByteArray → Prop) (H : RuP P) : ∀ (d : Nat), d ≤ 4 → ∀ (b K : Nat) (w : World), Strm w b K → K + ruK d ≤ 900000 →
    Calls Tryz.prog 41 #[.pointer (some ⟨b, 0, none⟩), .int .i64 d] w (SpS (IsStrP (P d)) w b (K + ruK d) [])
  | 0, _ => fun b K w hs hK => by
    have hS0 := Sp.start hs
    have hk0 : ((0 : Nat) : Int) ≤ 0 := by decide
    clear hs
    go_enter Tryz.func41, Tryz.ntmps41
    go_wp2_with fail
    refine (sp_someP (P 0) hS0 #[.string ⟨#[97, 32, 61, 32, 120]⟩, .string ⟨#[97, 61, 121]⟩, .string ⟨#[98, 32, 61, 32, 120]⟩, .string ⟨#[104, 97, 115, 32, 97]⟩, .string ⟨#[104, 97, 115, 32, 98]⟩, .string ⟨#[104, 97, 115, 32, 99]⟩, .string ⟨#[116, 105, 109, 101, 32, 60, 32, 53, 48, 48]⟩, .string ⟨#[116, 105, 109, 101, 32, 62, 32, 53, 48, 48]⟩, .string ⟨#[116, 114, 117, 101]⟩, .string ⟨#[99, 32, 61, 32, 49, 46, 50]⟩] 9 10 (by decide) (by decide) rfl (H.ten 0) (by omega)).mono ?_
    rintro e w2 ⟨_, rfl, ⟨s, rfl, hz⟩, hS2⟩
    go_wp2_with fail
    go_ret
    exact ⟨_, rfl, ⟨s, rfl, hz⟩, hS2.more (by unfold ruK; omega)⟩
  | d + 1, hd => fun b K w hs hK => by
    have hS0 := Sp.start hs
    have IH := Lib.hid (fun K w (h : Strm w b K) (h2 : K + ruK d ≤ 900000) => rightRuleP_calls P H d (by omega) b K w h h2)
    have HT := Lib.hid (H.ten (d + 1))
    have HSZ := Lib.hid (fun x (h : P d x) => H.sz d x (by omega) h)
    have hd3 : d ≤ 3 := by omega
    have hkk := ruK_le d (by omega)
    have HK : Hid (ruK (d + 1) = 3 * ruK d + 4) := Lib.hid rfl
    obtain ⟨k, hk⟩ : ∃ k, ruK d = k := ⟨_, rfl⟩
    rw [hk] at IH hkk HK
    obtain ⟨D, hD⟩ : ∃ D : Int, ((d + 1 : Nat) : Int) = D := ⟨_, rfl⟩
    have hd0 : ¬ D ≤ 0 := by omega
    have hdd : decide (D ≤ 0) = false := decide_eq_false hd0
    have hdi : D - 1 = d := by omega
    rw [HK.out, hD]
    clear hD
    rw [HK.out] at hK
    clear hs hk
    go_enter Tryz.func41, Tryz.ntmps41
    go_upto_if 11 with (first | (go_at_call 40; refine (sp_flip hS0 3 (by omega) (by omega) (by omega)).mono ?_; rintro e w2 ⟨_, rfl, ⟨fv, rfl⟩, hS2⟩))
    cases fv
    · go_wp2_with fail
      refine (IH.out _ _ hS2.strm (by omega)).mono ?_
      rintro e w3 ⟨_, rfl, ⟨s1, rfl, hz1⟩, hR3⟩
      have hq1 := HSZ.out _ hz1
      have hS3 := hS2.call hR3.strm hR3.bx
      clear hS0 hS2 hR3
      go_wp2_with fail
      refine (sp_next hS3 5 (by omega) (by omega) (by omega)).mono ?_
      rintro e w4 ⟨_, rfl, ⟨q, rfl, hq0, hq1⟩, hS4⟩
      clear hS3
      have qc : q = 0 ∨ q = 1 ∨ q = 2 ∨ q = 3 ∨ q = 4 := by omega
      rcases qc with rfl | rfl | rfl | rfl | rfl
      · go_wp2_with fail
        go_ret
        exact ⟨_, rfl, ⟨_, rfl, H.par d s1 _ hd3 hz1 (by rw [dat_app, dat_app])⟩, hS4.more (by omega)⟩
      · go_wp2_with fail
        go_ret
        exact ⟨_, rfl, ⟨_, rfl, H.not d s1 _ hd3 hz1 (by rw [dat_app])⟩, hS4.more (by omega)⟩
      · go_wp2_with fail
        refine (IH.out _ _ hS4.strm (by omega)).mono ?_
        rintro e w5 ⟨_, rfl, ⟨s2, rfl, hz2⟩, hR5⟩
        have hq2 := HSZ.out _ hz2
        have hS5 := hS4.call hR5.strm hR5.bx
        clear hS4 hR5
        go_wp2_with fail
        go_ret
        exact ⟨_, rfl, ⟨_, rfl, H.nor d s1 s2 _ hd3 hz1 hz2 (by rw [dat_app, dat_app, dat_app, dat_app])⟩, hS5.more (by omega)⟩
      · go_wp2_with fail
        refine (IH.out _ _ hS4.strm (by omega)).mono ?_
        rintro e w5 ⟨_, rfl, ⟨s2, rfl, hz2⟩, hR5⟩
        have hq2 := HSZ.out _ hz2
        have hS5 := hS4.call hR5.strm hR5.bx
        clear hS4 hR5
        go_wp2_with fail
        refine (IH.out _ _ hS5.strm (by omega)).mono ?_
        rintro e w6 ⟨_, rfl, ⟨s3, rfl, hz3⟩, hR6⟩
        have hq3 := HSZ.out _ hz3
        have hS6 := hS5.call hR6.strm hR6.bx
        clear hS5 hR6
        go_wp2_with fail
        go_ret
        exact ⟨_, rfl, ⟨_, rfl, H.two d s1 s2 s3 _ hd3 hz1 hz2 hz3 (by rw [dat_app, dat_app, dat_app, dat_app, dat_app])⟩, hS6.more (by omega)⟩
      · go_wp2_with fail
        refine (sp_someP OpS hS4 #[.string ⟨#[32, 97, 110, 100, 32]⟩, .string ⟨#[32, 111, 114, 32]⟩, .string ⟨#[32, 32, 97, 110, 100, 32]⟩] 9 3 (by decide) (by decide) rfl opS_ok (by omega)).mono ?_
        rintro e w5 ⟨_, rfl, ⟨s2, rfl, hz2⟩, hS5⟩
        have hq2 := opS_size hz2
        clear hS4
        go_wp2_with fail
        refine (IH.out _ _ hS5.strm (by omega)).mono ?_
        rintro e w6 ⟨_, rfl, ⟨s3, rfl, hz3⟩, hR6⟩
        have hq3 := HSZ.out _ hz3
        have hS6 := hS5.call hR6.strm hR6.bx
        clear hS5 hR6
        go_wp2_with fail
        go_ret
        exact ⟨_, rfl, ⟨_, rfl, H.op d s1 s2 s3 _ hd3 hz1 hz2 hz3 (by rw [dat_app, dat_app])⟩, hS6.more (by omega)⟩
    · go_wp2_with fail
      refine (sp_someP (P (d + 1)) hS2 #[.string ⟨#[97, 32, 61, 32, 120]⟩, .string ⟨#[97, 61, 121]⟩, .string ⟨#[98, 32, 61, 32, 120]⟩, .string ⟨#[104, 97, 115, 32, 97]⟩, .string ⟨#[104, 97, 115, 32, 98]⟩, .string ⟨#[104, 97, 115, 32, 99]⟩, .string ⟨#[116, 105, 109, 101, 32, 60, 32, 53, 48, 48]⟩, .string ⟨#[116, 105, 109, 101, 32, 62, 32, 53, 48, 48]⟩, .string ⟨#[116, 114, 117, 101]⟩, .string ⟨#[99, 32, 61, 32, 49, 46, 50]⟩] 9 10 (by decide) (by decide) rfl HT.out (by omega)).mono ?_
      rintro e w3 ⟨_, rfl, ⟨s, rfl, hz⟩, hS3⟩
      go_wp2_with fail
      go_ret
      exact ⟨_, rfl, ⟨s, rfl, hz⟩, hS3.more (by omega)⟩
/-- a rule as the stream makes one, so deep -/
def wR : Nat → Nat
  | 0 => 11
  | d + 1 => 3 * wR d + 11
theorem wR_le (d : Nat) (h : d ≤ 4) : wR d ≤ 1400 := by
  have : ∀ e : Fin 5, wR e.1 ≤ 1400 := by decide
  exact this ⟨d, by omega⟩
theorem wR_ge : ∀ d, 11 ≤ wR d
  | 0 => Nat.le_refl _
  | d + 1 => by rw [wR]; omega
def tenA : List Atm := [⟨sEq, ⟨#[97]⟩, ⟨#[120]⟩, 0⟩, ⟨sEq, ⟨#[97]⟩, ⟨#[121]⟩, 0⟩, ⟨sEq, ⟨#[98]⟩, ⟨#[120]⟩, 0⟩, ⟨sHas, ⟨#[97]⟩, noB, 0⟩, ⟨sHas, ⟨#[98]⟩, noB, 0⟩, ⟨sHas, ⟨#[99]⟩, noB, 0⟩, ⟨sLt, noB, ⟨#[53, 48, 48]⟩, 500⟩, ⟨sGt, noB, ⟨#[53, 48, 48]⟩, 500⟩, ⟨sTrue, noB, noB, 0⟩, ⟨sEq, ⟨#[99]⟩, ⟨#[49, 46, 50]⟩, 0⟩]
def tenS : List ByteArray := [⟨#[97, 32, 61, 32, 120]⟩, ⟨#[97, 61, 121]⟩, ⟨#[98, 32, 61, 32, 120]⟩, ⟨#[104, 97, 115, 32, 97]⟩, ⟨#[104, 97, 115, 32, 98]⟩, ⟨#[104, 97, 115, 32, 99]⟩, ⟨#[116, 105, 109, 101, 32, 60, 32, 53, 48, 48]⟩, ⟨#[116, 105, 109, 101, 32, 62, 32, 53, 48, 48]⟩, ⟨#[116, 114, 117, 101]⟩, ⟨#[99, 32, 61, 32, 49, 46, 50]⟩]
structure RgR (d : Nat) (s : ByteArray) (x : Rx) : Prop where
  rx : RXs numF s x
  dep : depX x ≤ 2 * d
  wt : wX x ≤ wR d
  sz : s.size ≤ wR d
  ats : ∀ a ∈ atsX x, a ∈ tenA
def RgS (d : Nat) (s : ByteArray) : Prop := ∃ x, RgR d s x
theorem ten_ok : ∀ a ∈ tenA, AtmOk numF a := by
  have h : ∀ a ∈ tenA, ((a.word = sTrue ∧ a.name = noB ∧ a.value = noB) ∨ (a.word = sHas ∧ nameB a.name = true ∧ a.value = noB) ∨ (a.word = sEq ∧ nameB a.name = true ∧ valueB a.value = true) ∨
      ((a.word = sLt ∨ a.word = sGt) ∧ a.name = noB ∧ (numF a.value).2 = true ∧ a.n = (numF a.value).1 ∧ 0 ≤ a.n ∧ a.n ≤ 864000000)) := by decide +kernel
  exact h
theorem ten_pair : ∀ p ∈ tenS.zip tenA, LX p.1.data.toList (atT p.2) ∧ p.1.size ≤ 10 ∧ wsum (atT p.2) ≤ 11 ∧ p.2 ∈ tenA := by
  have h : ∀ p ∈ tenS.zip tenA, (p.1.data.toList.all cleanB && decide ((lexW [] p.1.data.toList).map baOf = atT p.2)) = true ∧ p.1.size ≤ 10 ∧ wsum (atT p.2) ≤ 11 := by decide +kernel
  intro p hp
  obtain ⟨h1, h2, h3⟩ := h p hp
  exact ⟨LX.of_dec h1, h2, h3, (List.of_mem_zip hp).2⟩
theorem rg_ten (d : Nat) : ∀ s ∈ tenS, RgS d s := by
  intro s hs
  obtain ⟨a, ha⟩ : ∃ a, (s, a) ∈ tenS.zip tenA := by
    obtain ⟨i, hi, rfl⟩ := List.getElem_of_mem hs
    have hl : i < tenA.length := hi
    refine ⟨tenA[i], ?_⟩
    have h2 : i < (tenS.zip tenA).length := by rw [List.length_zip]; exact Nat.lt_min.2 ⟨hi, hl⟩
    have := List.getElem_mem h2
    rwa [List.getElem_zip] at this
  obtain ⟨h1, h2, h3, h4⟩ := ten_pair _ ha
  have hg := wR_ge d
  exact ⟨.atom a, LX.rx h1 (.oneO (.oneA (.atom a))) (fun b hb => by simp [atsX] at hb; subst hb; exact ten_ok _ h4), Nat.zero_le _, Nat.le_trans h3 hg, by simp only at h2; omega, fun b hb => by simp [atsX] at hb; subst hb; exact h4⟩
theorem data_size (x : ByteArray) : x.size = x.data.toList.length := by simp
theorem rg_ruP : RuP RgS where
  ten d v hv := by
    have hv : v ∈ tenS.map Value.string := hv
    obtain ⟨s, hs, rfl⟩ := List.mem_map.1 hv
    exact ⟨s, rfl, rg_ten d s hs⟩
  sz d x hd h := by
    obtain ⟨o, h⟩ := h
    have := h.sz
    have := wR_le d hd
    omega
  par d x y hd h e := by
    obtain ⟨o, h⟩ := h
    have h1 := h.dep
    have h2 := h.wt
    have h3 := h.sz
    rw [data_size] at h3
    refine ⟨.par o, h.rx.par e, by rw [depX]; omega, by rw [w_par, wR]; omega, ?_, h.ats⟩
    rw [data_size, e, wR]
    simp only [List.length_append, List.length_cons, List.length_nil]
    omega
  not d x y hd h e := by
    obtain ⟨o, h⟩ := h
    have h1 := h.dep
    have h2 := h.wt
    have h3 := h.sz
    rw [data_size] at h3
    refine ⟨notO o, h.rx.not e, by have := dep_notO o; omega, by rw [w_notO, wR]; omega, ?_, fun a ha => h.ats a (by rwa [ats_notO] at ha)⟩
    rw [data_size, e, wR]
    simp only [List.length_append, List.length_cons, List.length_nil]
    omega
  nor d x y z hd h h' e := by
    obtain ⟨o, h⟩ := h
    obtain ⟨o', h'⟩ := h'
    have h1 := h.dep
    have h2 := h.wt
    have h3 := h.sz
    have h4 := h'.dep
    have h5 := h'.wt
    have h6 := h'.sz
    rw [data_size] at h3 h6
    have r1 : RXs numF (baOf (x.data.toList ++ [32, 111, 114, 32] ++ y.data.toList)) (orO o o') := h.rx.or h'.rx (baOf_data _)
    have r2 : RXs numF (baOf ([40] ++ (x.data.toList ++ [32, 111, 114, 32] ++ y.data.toList) ++ [41])) (.par (orO o o')) := r1.par (by rw [baOf_data, baOf_data])
    have r3 : RXs numF z (notO (.par (orO o o'))) := r2.not (by rw [e, baOf_data]; simp)
    refine ⟨_, r3, ?_, ?_, ?_, fun a ha => ?_⟩
    · have := dep_notO (.par (orO o o'))
      rw [depX, dep_orO] at this
      omega
    · rw [w_notO, w_par, w_orO, wR]; omega
    · rw [data_size, e, wR]
      simp only [List.length_append, List.length_cons, List.length_nil]
      omega
    · rw [ats_notO, atsX, ats_orO] at ha
      exact (List.mem_append.1 ha).elim (h.ats a) (h'.ats a)
  two d x y t z hd h h' h'' e := by
    obtain ⟨o, h⟩ := h
    obtain ⟨o', h'⟩ := h'
    obtain ⟨o'', h''⟩ := h''
    have h1 := h.dep
    have h2 := h.wt
    have h3 := h.sz
    have h4 := h'.dep
    have h5 := h'.wt
    have h6 := h'.sz
    have h7 := h''.dep
    have h8 := h''.wt
    have h9 := h''.sz
    rw [data_size] at h3 h6 h9
    have r1 : RXs numF (baOf (x.data.toList ++ [32, 111, 114, 32] ++ y.data.toList)) (orO o o') := h.rx.or h'.rx (baOf_data _)
    have r2 : RXs numF (baOf ([40] ++ (x.data.toList ++ [32, 111, 114, 32] ++ y.data.toList) ++ [41])) (.par (orO o o')) := r1.par (by rw [baOf_data, baOf_data])
    have r3 : RXs numF z (andO (.par (orO o o')) o'') := r2.and h''.rx (by rw [e, baOf_data]; simp)
    refine ⟨_, r3, ?_, ?_, ?_, fun a ha => ?_⟩
    · rw [dep_andO, depX, dep_orO]
      omega
    · rw [w_andO, w_par, w_orO, wR]; omega
    · rw [data_size, e, wR]
      simp only [List.length_append, List.length_cons, List.length_nil]
      omega
    · rw [ats_andO, atsX, ats_orO] at ha
      rcases List.mem_append.1 ha with ha | ha
      · exact (List.mem_append.1 ha).elim (h.ats a) (h'.ats a)
      · exact h''.ats a ha
  op d x op y z hd h hop h' e := by
    obtain ⟨o, h⟩ := h
    obtain ⟨o', h'⟩ := h'
    have h1 := h.dep
    have h2 := h.wt
    have h3 := h.sz
    have h4 := h'.dep
    have h5 := h'.wt
    have h6 := h'.sz
    rw [data_size] at h3 h6
    rcases hop with ho | ho | ho <;> rw [ho] at e
    · refine ⟨_, h.rx.and h'.rx e, by rw [dep_andO]; omega, by rw [w_andO, wR]; omega, ?_, fun a ha => by
        rw [ats_andO] at ha
        exact (List.mem_append.1 ha).elim (h.ats a) (h'.ats a)⟩
      rw [data_size, e, wR]
      simp only [List.length_append, List.length_cons, List.length_nil]
      omega
    · refine ⟨_, h.rx.or h'.rx e, by rw [dep_orO]; omega, by rw [w_orO, wR]; omega, ?_, fun a ha => by
        rw [ats_orO] at ha
        exact (List.mem_append.1 ha).elim (h.ats a) (h'.ats a)⟩
      rw [data_size, e, wR]
      simp only [List.length_append, List.length_cons, List.length_nil]
      omega
    · refine ⟨_, h.rx.and2 h'.rx e, by rw [dep_andO]; omega, by rw [w_andO, wR]; omega, ?_, fun a ha => by
        rw [ats_andO] at ha
        exact (List.mem_append.1 ha).elim (h.ats a) (h'.ats a)⟩
      rw [data_size, e, wR]
      simp only [List.length_append, List.length_cons, List.length_nil]
      omega
theorem rightRg_calls (d : Nat) (hd : d ≤ 4) (b K : Nat) (w : World) (hs : Strm w b K) (hK : K + ruK d ≤ 900000) :
    Calls Tryz.prog 41 #[.pointer (some ⟨b, 0, none⟩), .int .i64 d] w (SpS (IsStrP (RgS d)) w b (K + ruK d) []) := rightRuleP_calls RgS rg_ruP d hd b K w hs hK
end Go.Proofs.YtfhdknppldobiaaGreatDoor

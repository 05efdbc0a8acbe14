/-
  marathon.Late by a contract.
-/
import Derived.Test.YtedfieopmjpibaaGreatDoorZLive9
namespace Go.Proofs.YtedfieopmjpibaaGreatDoor
open Go Go.RowKit

def PBd (q : Plc) : Prop := -18014398509481984 ≤ q.2.2.2 ∧ q.2.2.2 ≤ 18014398509481984
theorem rst_mem {xs : List Slt} {sk : ByteArray → Bool} {nx : Int} (hs : Sml xs) (hx : -8796093022208 ≤ nx ∧ nx ≤ 8796093022208) : ∀ k : Nat, k ≤ 1000 → ∀ q ∈ (rstTo sk nx xs k).1, PBd q
  | 0, _ => by intro q hq; cases hq
  | k + 1, hk1 => by
    have ih := rst_mem (sk := sk) hs hx k (by omega)
    have hb := rst_bd (sk := sk) hs hx k
    by_cases hk : k < xs.length
    · have h := hs _ (List.getElem_mem hk)
      rw [rstTo_step sk nx xs k hk]
      split
      · exact ih
      · intro q hq
        rcases List.mem_append.1 hq with hq | hq
        · exact ih q hq
        · simp at hq
          subst hq
          unfold PBd plcOf
          simp only
          omega
    · rw [rstTo, List.getElem?_eq_none (by omega)]
      exact ih
theorem exp_bd {xs : List Slt} {f at_ : Int} {evs : List Ev} {sk : ByteArray → Bool} (hs : Sml xs) (hn : xs.length ≤ 1000) (hev : ∀ e ∈ evs, EvOk xs e) (hf : -4398046511104 ≤ f ∧ f ≤ 4398046511104) (ha : -4398046511104 ≤ at_ ∧ at_ ≤ 4398046511104) : ∀ q ∈ expF xs f at_ evs sk, PBd q := by
  intro q hq
  rcases List.mem_append.1 hq with hq | hq
  · obtain ⟨e, he, rfl⟩ := List.mem_map.1 hq
    rw [List.take_length] at he
    have heo := hev e he
    have hb := ixOf_bd xs e.1
    obtain ⟨k, hk⟩ : ∃ k : Nat, findL xs e.1 = k := ⟨(findL xs e.1).toNat, by have := heo.fnd; omega⟩
    have hkl : k < xs.length := by omega
    rw [bplL_at xs at_ e k hk hkl]
    have hx := hs _ (List.getElem_mem hkl)
    have h1 := heo.at_
    have h2 := heo.end_
    unfold bplX PBd
    split
    · simp only; omega
    · simp only; omega
  · exact rst_mem hs (nxt_bd hs hev hf ha _ (Nat.le_refl _)) _ hn q hq
theorem endP_mem (f : Int) : ∀ l : List Plc, endP f l = f ∨ ∃ p ∈ l, endP f l = p.2.2.2
  | [] => .inl rfl
  | p :: l => by
    rw [endP]
    rcases endP_mem p.2.2.2 l with h | ⟨q, hq, h⟩
    · exact .inr ⟨p, List.mem_cons_self .., h⟩
    · exact .inr ⟨q, List.mem_cons_of_mem _ hq, h⟩
/-- how late it is -/
def lateV (xs : List Slt) (f : Int) (L : List Plc) : Int := if L = [] then 0 else endP f L - endP f (placesF f xs)
theorem known_ok {xs : List Slt} {f : Int} {ys : List Lv} {at_ : Int} {P : List Plc} (h : knownE xs f ys at_ P = 0) : liveF wrongP xs ys = 0 ∧ momB at_ = true ∧ momB f = true := by
  unfold knownE at h
  by_cases h0 : liveF wrongP xs ys = 0
  · rw [if_pos h0] at h
    by_cases h1 : (!momB at_ || !momB f) = true
    · rw [if_pos h1] at h; exact absurd h (by decide)
    · simp at h1
      exact ⟨h0, h1.1, h1.2⟩
  · rw [if_neg h0] at h; exact absurd h h0
theorem late_bd {xs : List Slt} {ys : List Lv} {f at_ : Int} (hs : Sml xs) (hn : xs.length ≤ 1000) (hys : ∀ y ∈ ys, LvOk y) (h : knownE xs f ys at_ (expP xs f ys at_) = 0) :
    (-18014398509481984 ≤ endP f (knownL xs f ys at_) ∧ endP f (knownL xs f ys at_) ≤ 18014398509481984) ∧ (-18014398509481984 ≤ endP f (placesF f xs) ∧ endP f (placesF f xs) ≤ 18014398509481984) ∧ (-4398046511104 ≤ f ∧ f ≤ 4398046511104) := by
  obtain ⟨h0, h1, h2⟩ := known_ok h
  have hf := (momB_iff f).1 h2
  have ha := (momB_iff at_).1 h1
  have hL : knownL xs f ys at_ = expP xs f ys at_ := by unfold knownL; rw [if_pos h]
  refine ⟨?_, ?_, by omega⟩
  · rw [hL]
    rcases endP_mem f (expP xs f ys at_) with he | ⟨q, hq, he⟩
    · rw [he]; omega
    · rw [he]
      exact exp_bd hs hn (ev_ok hys (live_upTo h0 at_)) (by omega) (by omega) q hq
  · unfold placesF
    rw [endP_to f xs _ (Nat.le_refl _)]
    have := fromAt_bd hs (f := f) (by omega) xs.length (Nat.le_refl _)
    omega

set_option maxRecDepth 100000 in
set_option maxHeartbeats 2000000 in
theorem late_calls (b : Nat) (A A2 : Option Addr) (n c m c2 : Nat) (xs : List Slt) (ys : List Lv) (f at_ : Int) (w : World) (hr : Slts w b A n c xs) (hn : n ≤ 1000) (hr2 : Rd w b 3 (.slice A2 m c2) m (ys.flatMap lvC)) (hys : ∀ y ∈ ys, LvOk y) (hb : b < w.heap.size) :
    Calls Tryz.prog 21 #[.slice A n c, .int .i64 f, .slice A2 m c2, .int .i64 at_] w (BRet (.tuple #[.int .i64 (lateV xs f (knownL xs f ys at_)), .int .i64 (knownE xs f ys at_ (expP xs f ys at_))]) w) := by
  have HK := Lib.hid (known_calls b A A2 n c m c2 xs ys f at_ w hr hn hr2 hys hb)
  have hl := (hr.rd.cells sltC_len (by omega)).1
  have hbd := fun h => late_bd (f := f) (at_ := at_) hr.sml (by omega) hys h
  have hkl : knownE xs f ys at_ (expP xs f ys at_) ≠ 0 → knownL xs f ys at_ = [] := fun h => by unfold knownL; rw [if_neg h]
  obtain ⟨E, hE⟩ : ∃ E, knownE xs f ys at_ (expP xs f ys at_) = E := ⟨_, rfl⟩
  obtain ⟨L, hL⟩ : ∃ L, knownL xs f ys at_ = L := ⟨_, rfl⟩
  rw [hE, hL] at HK
  rw [hE, hL] at hkl
  rw [hE] at hbd
  rw [hL] at hbd
  rw [hE, hL]
  have HR := Lib.hid hr
  have HB := Lib.hid hbd
  clear hr hr2 hys hl hbd hE hL
  by_cases hz : E = 0
  · subst hz
    by_cases hl0 : L = []
    · subst hl0
      have HV : Hid (lateV xs f [] = 0) := rfl
      clear hkl HB
      go_enter Tryz.func21, Tryz.ntmps21
      go_wp2_with fail
      refine HK.out.mono ?_
      rintro e w1 ⟨v, rfl, hown, hb1⟩
      obtain ⟨A3, c3, hv⟩ := own_form hown
      subst hv
      go_wp2_with fail
      refine bodyPost_ret (v := .tuple #[.int .i64 0, .int .i64 0]) (by simp [results, Tryz.results21, go_sem]) rfl ⟨by rw [HV.out], hb1⟩
    · obtain ⟨B1, B2, B3⟩ := HB.out rfl
      have hlp : 0 < L.length := by cases L with | nil => exact absurd rfl hl0 | cons _ _ => simp
      have hln : (((L.length : Nat) : Int) == 0) = false := by rw [beq_eq_false_iff_ne]; omega
      have HV : Hid (lateV xs f L = endP f L - endP f (placesF f xs)) := by unfold lateV; rw [if_neg hl0]; exact Lib.hid rfl
      obtain ⟨z1, hz1⟩ : ∃ z, endP f L = z := ⟨_, rfl⟩
      obtain ⟨z2, hz2⟩ : ∃ z, endP f (placesF f xs) = z := ⟨_, rfl⟩
      rw [hz1, hz2] at HV
      rw [hz1] at B1
      rw [hz2] at B2
      have HE1 : Hid (∀ W A3 c3, Rd W b 4 (.slice A3 L.length c3) L.length (L.flatMap plcC) → Calls Tryz.prog 48 #[.slice A3 L.length c3, .int .i64 f] W (QRet (.int .i64 z1) W)) := fun W A3 c3 h => by
        have := end_calls b A3 L.length c3 L f W h
        rw [hz1] at this
        exact this
      have HE2 : Hid (∀ W A3 c3, Rd W b 4 (.slice A3 (placesF f xs).length c3) (placesF f xs).length ((placesF f xs).flatMap plcC) → Calls Tryz.prog 48 #[.slice A3 (placesF f xs).length c3, .int .i64 f] W (QRet (.int .i64 z2) W)) := fun W A3 c3 h => by
        have := end_calls b A3 (placesF f xs).length c3 (placesF f xs) f W h
        rw [hz2] at this
        exact this
      have HTT : Hid (∀ W, Below w.heap.size w W → Calls Tryz.prog 46 #[.slice A n c, .int .i64 f] W (PlcsS (placesF f xs) W)) := fun W hW => timetable_calls b A n c xs f W (HR.out.below hW) hn B3
      obtain ⟨q1, q2⟩ := B1
      obtain ⟨q3, q4⟩ := B2
      clear hkl HB hl0 hz1 hz2
      go_enter Tryz.func21, Tryz.ntmps21
      go_wp2_with fail
      refine HK.out.mono ?_
      rintro e w1 ⟨v, rfl, hown, hb1⟩
      have hrd := Rd.own (b := b) hown hb
      obtain ⟨A3, c3, hv⟩ := own_form hown
      subst hv
      have hb1z := hb1.size
      clear hown
      go_wp2_with fail
      refine (HE1.out _ _ _ hrd).mono ?_
      rintro e w2 ⟨rfl, nq, rfl⟩
      have hb2 := below_drewN hb1 nq
      go_wp2_with fail
      refine (HTT.out _ hb2).mono ?_
      rintro e w3 ⟨v, rfl, hown, hb3⟩
      have hb4 := below_call hb2 hb3 (Nat.le_refl _)
      have hrd2 := Rd.own (b := b) hown (by show b < w1.heap.size; omega)
      obtain ⟨A4, c4, hv⟩ := own_form hown
      subst hv
      clear hown
      go_wp2_with fail
      refine (HE2.out _ _ _ hrd2).mono ?_
      rintro e w4 ⟨rfl, nq2, rfl⟩
      have hb5 := below_drewN hb4 nq2
      go_wp2_with fail
      refine bodyPost_ret (v := .tuple #[.int .i64 (z1 - z2), .int .i64 0]) (by simp [results, Tryz.results21, go_sem]) rfl ⟨by rw [HV.out], hb5⟩
  · have e1 := hkl hz
    subst e1
    have HV : Hid (lateV xs f [] = 0) := rfl
    have hz' : (E != 0) = true := by rw [bne_iff_ne]; exact hz
    clear hkl HB
    go_enter Tryz.func21, Tryz.ntmps21
    go_wp2_with fail
    refine HK.out.mono ?_
    rintro e w1 ⟨v, rfl, hown, hb1⟩
    obtain ⟨A3, c3, hv⟩ := own_form hown
    subst hv
    go_wp2_with fail
    refine bodyPost_ret (v := .tuple #[.int .i64 0, .int .i64 E]) (by simp [results, Tryz.results21, go_sem]) rfl ⟨by rw [HV.out], hb1⟩
end Go.Proofs.YtedfieopmjpibaaGreatDoor

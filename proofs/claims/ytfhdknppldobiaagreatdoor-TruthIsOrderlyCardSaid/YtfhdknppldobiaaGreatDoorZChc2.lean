/-
  Whether a rule holds by a choice: EachChoice's inner closure by a contract.
-/
import Derived.Test.YtfhdknppldobiaaGreatDoorZBinS
import Derived.Deep.DeepCutAuto
import Derived.Test.YtfhdknppldobiaaGreatDoorZNev
namespace Go.Proofs.YtfhdknppldobiaaGreatDoor
open Go Go.RowKit TxtP
attribute [local go_sem ↓] Go.wp_at_zero Go.wp_at_succ

theorem run_store_fnC {P : Program} (w : World) (a : Addr) (m : Mode) (f : Fn) (ts lb : Array Value) : (store a (.func f ts lb) m).run P w = stored P w a (.func f ts lb) m := run_store P w a _ m rfl
def evS (ns : List ByteArray) (m : Nat) (s : ByteArray) : Bool := truQ (isM ns m) (flat (parseT numF s).1)
end Go.Proofs.YtfhdknppldobiaaGreatDoor
/-
  ImpliesOf of right rules by a contract, with its closure and EachChoice at it. (Printed by gen_so.py.)
-/
namespace Go.Proofs.YtfhdknppldobiaaGreatDoor
open Go Go.RowKit TxtP
attribute [local go_sem ↓] Go.wp_at_zero Go.wp_at_succ

attribute [local go_sem] run_store_fnC
/-- what is asked of a choice -/
def soI (ns : List ByteArray) (s1 s2 : ByteArray) (m : Nat) : Bool := !evS ns m s1 || evS ns m s2
end Go.Proofs.YtfhdknppldobiaaGreatDoor
/-
  SameOf of right rules by a contract, with its closure and EachChoice at it. (Printed by gen_so.py.)
-/
namespace Go.Proofs.YtfhdknppldobiaaGreatDoor
open Go Go.RowKit TxtP
attribute [local go_sem ↓] Go.wp_at_zero Go.wp_at_succ

attribute [local go_sem] run_store_fnC
/-- what is asked of a choice -/
def soS (ns : List ByteArray) (s1 s2 : ByteArray) (m : Nat) : Bool := evS ns m s1 == evS ns m s2
end Go.Proofs.YtfhdknppldobiaaGreatDoor
/-
  NeverOf of right rules by a contract, with its closure and EachChoice at it. (Printed by gen_so.py.)
-/
namespace Go.Proofs.YtfhdknppldobiaaGreatDoor
open Go Go.RowKit TxtP
attribute [local go_sem ↓] Go.wp_at_zero Go.wp_at_succ

attribute [local go_sem] run_store_fnC
/-- what is asked of a choice -/
def soN (ns : List ByteArray) (s1 : ByteArray) (m : Nat) : Bool := !evS ns m s1
end Go.Proofs.YtfhdknppldobiaaGreatDoor
/-
  rule.two, Implies, Same and Never by contracts; that the reference answers the same.
-/
namespace Go.Proofs.YtfhdknppldobiaaGreatDoor
open Go Go.RowKit TxtP
attribute [local go_sem ↓] Go.wp_at_zero Go.wp_at_succ

/-- a tree in memory, and what is known of it -/
structure TrM (W : World) (g : Nat) (t : Nd) : Prop where
  nd : ∃ lo hi, NodeAt W lo hi g t ∧ hi ≤ W.heap.size
  ok : NdOk numF t ∧ cntN t ≤ 100000 ∧ (namL t).length ≤ 2001
theorem TrM.below {W V : World} {g : Nat} {t : Nd} (h : TrM W g t) (hb : Below W.heap.size W V) : TrM V g t := by
  obtain ⟨lo, hi, h1, h2⟩ := h.nd
  exact ⟨⟨lo, hi, h1.keep (fun k _ hk => hb.block k (by omega)), Nat.le_trans h2 hb.size⟩, h.ok⟩
theorem TrM.lt {W : World} {g : Nat} {t : Nd} (h : TrM W g t) : g < W.heap.size := by
  obtain ⟨lo, hi, h1, h2⟩ := h.nd
  have := h1.lt
  omega
theorem trM_of {W : World} {lo g : Nat} {s : ByteArray} (h0 : (parseE numF s).2 = 0) (h : NodeAt W lo W.heap.size g (parseT numF s).1) : TrM W g (parseT numF s).1 := by
  obtain ⟨hok, hcn, _⟩ := (check_parse numF numF_ok s).2 h0
  have h3 : s.size ≤ 2000 := by
    unfold parseE at h0
    split at h0
    · exact absurd (show (2 : Int) = 0 from h0) (by decide)
    · omega
  have h4 := namL_len (parseT numF s).1
  have h5 := ats_len hok
  rw [← txs_len] at h5
  exact ⟨⟨_, _, h, Nat.le_refl _⟩, hok, by omega, by omega⟩
theorem nvM_two {W : World} {g1 g2 : Nat} {t1 t2 : Nd} (b1 b2 : Bool) (h1 : TrM W g1 t1) (h2 : TrM W g2 t2) :
    NvM ((W.alloc (.cells #[ptrV g1, ptrV g2] 110)).alloc (.cells #[.bool b1, .bool b2] 4)) g1 (some ⟨W.heap.size, 0, none⟩) 2 2 (some ⟨W.heap.size + 1, 0, none⟩) 2 [(t1, b1), (t2, b2)] [g1, g2] := by
  have hlt := h1.lt
  have hA := (Below.refl W.heap.size W).alloc (Nat.le_refl _) (.cells #[ptrV g1, ptrV g2] 110)
  have hz : (W.alloc (.cells #[ptrV g1, ptrV g2] 110)).heap.size = W.heap.size + 1 := by simp
  have hB := (Below.refl (W.alloc (.cells #[ptrV g1, ptrV g2] 110)).heap.size _).alloc (Nat.le_refl _) (.cells #[.bool b1, .bool b2] 4)
  have hAB := below_call hA hB (Nat.le_refl _)
  refine ⟨(Rd.lit W g1 1 2 #[ptrV g1, ptrV g2] 110 (by omega) (by decide) rfl).below hB, ?_, rfl, rfl, ?_, ?_, by omega⟩
  · have := Rd.lit (W.alloc (.cells #[ptrV g1, ptrV g2] 110)) g1 1 2 #[.bool b1, .bool b2] 4 (by omega) (by decide) rfl
    rw [hz] at this
    exact this
  · intro i hi hp
    match i, hi with
    | 0, _ => exact (h1.below hAB).nd
    | 1, _ => exact (h2.below hAB).nd
  · intro p hp
    simp at hp
    rcases hp with rfl | rfl
    · exact h1.ok
    · exact h2.ok
theorem nvM_one {W : World} {g1 : Nat} {t1 : Nd} (b1 : Bool) (h1 : TrM W g1 t1) :
    NvM ((W.alloc (.cells #[ptrV g1] 110)).alloc (.cells #[.bool b1] 4)) g1 (some ⟨W.heap.size, 0, none⟩) 1 1 (some ⟨W.heap.size + 1, 0, none⟩) 1 [(t1, b1)] [g1] := by
  have hlt := h1.lt
  have hA := (Below.refl W.heap.size W).alloc (Nat.le_refl _) (.cells #[ptrV g1] 110)
  have hz : (W.alloc (.cells #[ptrV g1] 110)).heap.size = W.heap.size + 1 := by simp
  have hB := (Below.refl (W.alloc (.cells #[ptrV g1] 110)).heap.size _).alloc (Nat.le_refl _) (.cells #[.bool b1] 4)
  have hAB := below_call hA hB (Nat.le_refl _)
  refine ⟨(Rd.lit W g1 1 1 #[ptrV g1] 110 (by omega) (by decide) rfl).below hB, ?_, rfl, rfl, ?_, ?_, by omega⟩
  · have := Rd.lit (W.alloc (.cells #[ptrV g1] 110)) g1 1 1 #[.bool b1] 4 (by omega) (by decide) rfl
    rw [hz] at this
    exact this
  · intro i hi hp
    match i, hi with
    | 0, _ => exact (h1.below hAB).nd
  · intro p hp
    simp at hp
    subst hp
    exact h1.ok
/-- the error of two rules -/
def twE (a b : ByteArray) : Int := if (parseE numF a).2 = 0 then (parseE numF b).2 else (parseE numF a).2
def tre (s : ByteArray) : Nd := (parseT numF s).1
set_option maxRecDepth 100000 in
set_option maxHeartbeats 1000000 in
theorem two_calls (a b : ByteArray) (w : World) (ha : a.size ≤ 90000) (hb : b.size ≤ 90000) :
    Calls Tryz.prog 95 #[.string a, .string b] w fun e w' => ∃ v1 v2, e = .returned (.tuple #[v1, v2, .int .i64 (twE a b)]) ∧ Below w.heap.size w w' ∧ (twE a b = 0 → ∃ g1 g2, v1 = ptrV g1 ∧ v2 = ptrV g2 ∧ TrM w' g1 (tre a) ∧ TrM w' g2 (tre b)) := by
  have HA := Lib.hid (parse_calls numF a w (by omega) (.inr numF_c))
  have HBB := Lib.hid (fun W => parse_calls numF b W (by omega) (.inr numF_c))
  have HTA : Hid (∀ W lo g, (parseE numF a).2 = 0 → NodeAt W lo W.heap.size g (parseT numF a).1 → TrM W g (tre a)) := Lib.hid (fun W lo g h0 h => trM_of h0 h)
  have HTB : Hid (∀ W lo g, (parseE numF b).2 = 0 → NodeAt W lo W.heap.size g (parseT numF b).1 → TrM W g (tre b)) := Lib.hid (fun W lo g h0 h => trM_of h0 h)
  have HE : Hid (twE a b = if (parseE numF a).2 = 0 then (parseE numF b).2 else (parseE numF a).2) := Lib.hid rfl
  unfold ParseS at HA HBB
  obtain ⟨E, hE⟩ : ∃ E, twE a b = E := ⟨_, rfl⟩
  rw [hE] at HE ⊢
  obtain ⟨qa, hqa⟩ : ∃ q, parseE numF a = q := ⟨_, rfl⟩
  obtain ⟨qb, hqb⟩ : ∃ q, parseE numF b = q := ⟨_, rfl⟩
  rw [hqa] at HA HTA HE
  rw [hqb] at HBB HTB HE
  obtain ⟨a1, a2⟩ := qa
  obtain ⟨b1, b2⟩ := qb
  simp only at HA HBB HTA HTB HE
  clear hE hqa hqb
  by_cases h0 : a2 = 0
  · subst h0
    have HE2 : Hid (E = b2) := Lib.hid (by rw [HE.out, if_pos rfl])
    clear HE
    go_enter Tryz.func95, Tryz.ntmps95
    go_wp2_with fail
    refine HA.out.mono ?_
    rintro e w2 ⟨v, rfl, hb2, hN⟩
    obtain ⟨g1, rfl, hn1⟩ := hN (by first | rfl | trivial)
    have HT1 := Lib.hid (HTA.out _ _ _ (by first | rfl | trivial) hn1)
    have HB2 := Lib.hid hb2
    clear hN hn1 hb2 HTA
    go_wp2_with fail
    refine (HBB.out _).mono ?_
    rintro e w3 ⟨v3, rfl, hb3, hN3⟩
    have HT3 := Lib.hid (HT1.out.below hb3)
    have HB3 := Lib.hid (below_call HB2.out hb3 (Nat.le_refl _))
    have HR : Hid (b2 = 0 → ∃ g1' g2, ptrV g1 = ptrV g1' ∧ v3 = ptrV g2 ∧ TrM w3 g1' (tre a) ∧ TrM w3 g2 (tre b)) := Lib.hid (fun h => by
      obtain ⟨g2, hv, hn⟩ := hN3 h
      exact ⟨g1, g2, rfl, hv, HT3.out, HTB.out _ _ _ h hn⟩)
    clear hN3 hb3
    go_wp2_with fail
    go_ret3
    rw [HE2.out]
    exact ⟨_, _, rfl, HB3.out, HR.out⟩
  · have HE2 : Hid (E = a2) := Lib.hid (by rw [HE.out, if_neg h0])
    have hne : (a2 != 0) = true := by rw [bne_iff_ne]; exact h0
    clear HE
    go_enter Tryz.func95, Tryz.ntmps95
    go_wp2_with fail
    refine HA.out.mono ?_
    rintro e w2 ⟨v, rfl, hb2, hN⟩
    clear hN
    go_wp2_with fail
    go_ret3
    rw [HE2.out]
    exact ⟨_, _, rfl, hb2, fun h => absurd h h0⟩
/-- what Implies answers -/
def impE (a b : ByteArray) : Int := if twE a b = 0 then nevE [(tre a, true), (tre b, false)] else twE a b
def impB (a b : ByteArray) : Bool := if twE a b = 0 then nevB [(tre a, true), (tre b, false)] else false
theorem nevTwo_calls {W : World} {g1 g2 : Nat} {t1 t2 : Nd} (b1 b2 : Bool) (h1 : TrM W g1 t1) (h2 : TrM W g2 t2) :
    Calls Tryz.prog 96 #[.slice (some ⟨W.heap.size, 0, none⟩) 2 2, .slice (some ⟨W.heap.size + 1, 0, none⟩) 2 2] ((W.alloc (.cells #[ptrV g1, ptrV g2] 110)).alloc (.cells #[.bool b1, .bool b2] 4)) (fun e w' => e = .returned (.tuple #[.bool (nevB [(t1, b1), (t2, b2)]), .int .i64 (nevE [(t1, b1), (t2, b2)])]) ∧ Below W.heap.size W w') := by
  have hlt := h1.lt
  have hA := (Below.refl W.heap.size W).alloc (Nat.le_refl _) (.cells #[ptrV g1, ptrV g2] 110)
  have hB := (Below.refl (W.alloc (.cells #[ptrV g1, ptrV g2] 110)).heap.size _).alloc (Nat.le_refl _) (.cells #[.bool b1, .bool b2] 4)
  have hAB := below_call hA hB (Nat.le_refl _)
  exact (never_calls g1 _ 2 2 _ 2 _ _ _ (nvM_two b1 b2 h1 h2) (Nat.lt_of_lt_of_le hlt hAB.size)).mono (fun e w' h => ⟨h.1, below_call hAB h.2 (Nat.le_refl _)⟩)
theorem nevOne_calls {W : World} {g1 : Nat} {t1 : Nd} (b1 : Bool) (h1 : TrM W g1 t1) :
    Calls Tryz.prog 96 #[.slice (some ⟨W.heap.size, 0, none⟩) 1 1, .slice (some ⟨W.heap.size + 1, 0, none⟩) 1 1] ((W.alloc (.cells #[ptrV g1] 110)).alloc (.cells #[.bool b1] 4)) (fun e w' => e = .returned (.tuple #[.bool (nevB [(t1, b1)]), .int .i64 (nevE [(t1, b1)])]) ∧ Below W.heap.size W w') := by
  have hlt := h1.lt
  have hA := (Below.refl W.heap.size W).alloc (Nat.le_refl _) (.cells #[ptrV g1] 110)
  have hB := (Below.refl (W.alloc (.cells #[ptrV g1] 110)).heap.size _).alloc (Nat.le_refl _) (.cells #[.bool b1] 4)
  have hAB := below_call hA hB (Nat.le_refl _)
  exact (never_calls g1 _ 1 1 _ 1 _ _ _ (nvM_one b1 h1) (Nat.lt_of_lt_of_le hlt hAB.size)).mono (fun e w' h => ⟨h.1, below_call hAB h.2 (Nat.le_refl _)⟩)
set_option maxRecDepth 100000 in
set_option maxHeartbeats 1000000 in
theorem implies_calls (a b : ByteArray) (w : World) (ha : a.size ≤ 90000) (hb : b.size ≤ 90000) :
    Calls Tryz.prog 43 #[.string a, .string b] w (BRet (.tuple #[.bool (impB a b), .int .i64 (impE a b)]) w) := by
  have HT := Lib.hid (two_calls a b w ha hb)
  have HN : Hid (∀ W g1 g2, TrM W g1 (tre a) → TrM W g2 (tre b) → Calls Tryz.prog 96 #[.slice (some ⟨W.heap.size, 0, none⟩) 2 2, .slice (some ⟨W.heap.size + 1, 0, none⟩) 2 2] ((W.alloc (.cells #[ptrV g1, ptrV g2] 110)).alloc (.cells #[.bool true, .bool false] 4)) (fun e w' => e = .returned (.tuple #[.bool (nevB [(tre a, true), (tre b, false)]), .int .i64 (nevE [(tre a, true), (tre b, false)])]) ∧ Below W.heap.size W w')) := Lib.hid (fun W g1 g2 h1 h2 => nevTwo_calls true false h1 h2)
  have HE : Hid (impE a b = if twE a b = 0 then nevE [(tre a, true), (tre b, false)] else twE a b) := Lib.hid rfl
  have HB : Hid (impB a b = if twE a b = 0 then nevB [(tre a, true), (tre b, false)] else false) := Lib.hid rfl
  obtain ⟨E, hE⟩ : ∃ E, twE a b = E := ⟨_, rfl⟩
  obtain ⟨nE, hnE⟩ : ∃ E, nevE [(tre a, true), (tre b, false)] = E := ⟨_, rfl⟩
  obtain ⟨nB, hnB⟩ : ∃ E, nevB [(tre a, true), (tre b, false)] = E := ⟨_, rfl⟩
  rw [hE] at HT HE HB
  rw [hnE] at HN HE
  rw [hnB] at HN HB
  obtain ⟨r1, hr1⟩ : ∃ r, impE a b = r := ⟨_, rfl⟩
  obtain ⟨r2, hr2⟩ : ∃ r, impB a b = r := ⟨_, rfl⟩
  rw [hr1] at HE ⊢
  rw [hr2] at HB ⊢
  clear hE hnE hnB hr1 hr2
  go_enter Tryz.func43, Tryz.ntmps43
  go_wp2_with fail
  refine HT.out.mono ?_
  rintro e w2 ⟨v1, v2, rfl, hb2, hN⟩
  have HB2 := Lib.hid hb2
  by_cases h0 : E = 0
  · subst h0
    have HR1 : Hid (r1 = nE) := Lib.hid (by rw [HE.out, if_pos rfl])
    have HR2 : Hid (r2 = nB) := Lib.hid (by rw [HB.out, if_pos rfl])
    obtain ⟨g1, g2, rfl, rfl, ht1, ht2⟩ := hN (by first | rfl | trivial)
    have HC := Lib.hid (HN.out w2 g1 g2 ht1 ht2)
    clear hN ht1 ht2 hb2 HE HB HN
    go_wp2_with fail
    refine HC.out.mono ?_
    rintro e w3 ⟨rfl, hb3⟩
    go_wp2_with fail
    go_ret2
    exact ⟨by rw [HR1.out, HR2.out]; rfl, below_call HB2.out hb3 (Nat.le_refl _)⟩
  · have hne : (E != 0) = true := by rw [bne_iff_ne]; exact h0
    have HR1 : Hid (r1 = E) := Lib.hid (by rw [HE.out, if_neg h0])
    have HR2 : Hid (r2 = false) := Lib.hid (by rw [HB.out, if_neg h0])
    clear hN hb2 HE HB HN
    go_wp2_with fail
    go_ret2
    exact ⟨by rw [HR1.out, HR2.out]; rfl, HB2.out⟩
/-- what Never answers -/
def nvrE (a : ByteArray) : Int := if (parseE numF a).2 = 0 then nevE [(tre a, true)] else (parseE numF a).2
def nvrB (a : ByteArray) : Bool := if (parseE numF a).2 = 0 then nevB [(tre a, true)] else false
set_option maxRecDepth 100000 in
set_option maxHeartbeats 1000000 in
theorem nvr_calls (a : ByteArray) (w : World) (ha : a.size ≤ 90000) :
    Calls Tryz.prog 45 #[.string a] w (BRet (.tuple #[.bool (nvrB a), .int .i64 (nvrE a)]) w) := by
  have HT := Lib.hid (parse_calls numF a w (by omega) (.inr numF_c))
  have HTA : Hid (∀ W lo g, (parseE numF a).2 = 0 → NodeAt W lo W.heap.size g (parseT numF a).1 → TrM W g (tre a)) := Lib.hid (fun W lo g h0 h => trM_of h0 h)
  have HN : Hid (∀ W g1, TrM W g1 (tre a) → Calls Tryz.prog 96 #[.slice (some ⟨W.heap.size, 0, none⟩) 1 1, .slice (some ⟨W.heap.size + 1, 0, none⟩) 1 1] ((W.alloc (.cells #[ptrV g1] 110)).alloc (.cells #[.bool true] 4)) (fun e w' => e = .returned (.tuple #[.bool (nevB [(tre a, true)]), .int .i64 (nevE [(tre a, true)])]) ∧ Below W.heap.size W w')) := Lib.hid (fun W g1 h1 => nevOne_calls true h1)
  have HE : Hid (nvrE a = if (parseE numF a).2 = 0 then nevE [(tre a, true)] else (parseE numF a).2) := Lib.hid rfl
  have HB : Hid (nvrB a = if (parseE numF a).2 = 0 then nevB [(tre a, true)] else false) := Lib.hid rfl
  unfold ParseS at HT
  obtain ⟨qa, hqa⟩ : ∃ q, parseE numF a = q := ⟨_, rfl⟩
  rw [hqa] at HT HTA HE HB
  obtain ⟨q1, E⟩ := qa
  simp only at HT HTA HE HB
  obtain ⟨nE, hnE⟩ : ∃ E, nevE [(tre a, true)] = E := ⟨_, rfl⟩
  obtain ⟨nB, hnB⟩ : ∃ E, nevB [(tre a, true)] = E := ⟨_, rfl⟩
  rw [hnE] at HN HE
  rw [hnB] at HN HB
  obtain ⟨r1, hr1⟩ : ∃ r, nvrE a = r := ⟨_, rfl⟩
  obtain ⟨r2, hr2⟩ : ∃ r, nvrB a = r := ⟨_, rfl⟩
  rw [hr1] at HE ⊢
  rw [hr2] at HB ⊢
  clear hnE hnB hr1 hr2 hqa
  go_enter Tryz.func45, Tryz.ntmps45
  go_wp2_with fail
  refine HT.out.mono ?_
  rintro e w2 ⟨v1, rfl, hb2, hN⟩
  have HB2 := Lib.hid hb2
  by_cases h0 : E = 0
  · subst h0
    have HR1 : Hid (r1 = nE) := Lib.hid (by rw [HE.out, if_pos rfl])
    have HR2 : Hid (r2 = nB) := Lib.hid (by rw [HB.out, if_pos rfl])
    obtain ⟨g1, rfl, hn1⟩ := hN (by first | rfl | trivial)
    have HC := Lib.hid (HN.out w2 g1 (HTA.out _ _ _ (by first | rfl | trivial) hn1))
    clear hN hn1 hb2 HE HB HN
    go_wp2_with fail
    refine HC.out.mono ?_
    rintro e w3 ⟨rfl, hb3⟩
    go_wp2_with fail
    go_ret2
    exact ⟨by rw [HR1.out, HR2.out]; rfl, below_call HB2.out hb3 (Nat.le_refl _)⟩
  · have hne : (E != 0) = true := by rw [bne_iff_ne]; exact h0
    have HR1 : Hid (r1 = E) := Lib.hid (by rw [HE.out, if_neg h0])
    have HR2 : Hid (r2 = false) := Lib.hid (by rw [HB.out, if_neg h0])
    clear hN hb2 HE HB HN
    go_wp2_with fail
    go_ret2
    exact ⟨by rw [HR1.out, HR2.out]; rfl, HB2.out⟩
/-- what Same answers -/
def smB (a b : ByteArray) : Bool := if twE a b = 0 then (if nevE [(tre a, true), (tre b, false)] = 0 ∧ nevB [(tre a, true), (tre b, false)] = true then nevB [(tre a, false), (tre b, true)] else false) else false
set_option maxRecDepth 100000 in
set_option maxHeartbeats 1000000 in
theorem same_calls (a b : ByteArray) (w : World) (ha : a.size ≤ 90000) (hb : b.size ≤ 90000) :
    Calls Tryz.prog 44 #[.string a, .string b] w (BRet (.tuple #[.bool (smB a b), .int .i64 (impE a b)]) w) := by
  have HT := Lib.hid (two_calls a b w ha hb)
  have HN : Hid (∀ W g1 g2, TrM W g1 (tre a) → TrM W g2 (tre b) → Calls Tryz.prog 96 #[.slice (some ⟨W.heap.size, 0, none⟩) 2 2, .slice (some ⟨W.heap.size + 1, 0, none⟩) 2 2] ((W.alloc (.cells #[ptrV g1, ptrV g2] 110)).alloc (.cells #[.bool true, .bool false] 4)) (fun e w' => e = .returned (.tuple #[.bool (nevB [(tre a, true), (tre b, false)]), .int .i64 (nevE [(tre a, true), (tre b, false)])]) ∧ Below W.heap.size W w')) := Lib.hid (fun W g1 g2 h1 h2 => nevTwo_calls true false h1 h2)
  have HN2 : Hid (∀ W g1 g2, TrM W g1 (tre a) → TrM W g2 (tre b) → Calls Tryz.prog 96 #[.slice (some ⟨W.heap.size, 0, none⟩) 2 2, .slice (some ⟨W.heap.size + 1, 0, none⟩) 2 2] ((W.alloc (.cells #[ptrV g1, ptrV g2] 110)).alloc (.cells #[.bool false, .bool true] 4)) (fun e w' => e = .returned (.tuple #[.bool (nevB [(tre a, false), (tre b, true)]), .int .i64 (nevE [(tre a, true), (tre b, false)])]) ∧ Below W.heap.size W w')) := Lib.hid (fun W g1 g2 h1 h2 => nevTwo_calls false true h1 h2)
  have HE : Hid (impE a b = if twE a b = 0 then nevE [(tre a, true), (tre b, false)] else twE a b) := Lib.hid rfl
  have HB : Hid (smB a b = if twE a b = 0 then (if nevE [(tre a, true), (tre b, false)] = 0 ∧ nevB [(tre a, true), (tre b, false)] = true then nevB [(tre a, false), (tre b, true)] else false) else false) := Lib.hid rfl
  obtain ⟨E, hE⟩ : ∃ E, twE a b = E := ⟨_, rfl⟩
  obtain ⟨nE, hnE⟩ : ∃ E, nevE [(tre a, true), (tre b, false)] = E := ⟨_, rfl⟩
  obtain ⟨nB, hnB⟩ : ∃ E, nevB [(tre a, true), (tre b, false)] = E := ⟨_, rfl⟩
  obtain ⟨nC, hnC⟩ : ∃ E, nevB [(tre a, false), (tre b, true)] = E := ⟨_, rfl⟩
  rw [hE] at HT HE HB
  rw [hnE] at HN HN2 HE HB
  rw [hnB] at HN HB
  rw [hnC] at HN2 HB
  obtain ⟨r1, hr1⟩ : ∃ r, impE a b = r := ⟨_, rfl⟩
  obtain ⟨r2, hr2⟩ : ∃ r, smB a b = r := ⟨_, rfl⟩
  rw [hr1] at HE ⊢
  rw [hr2] at HB ⊢
  clear hE hnE hnB hnC hr1 hr2
  go_enter Tryz.func44, Tryz.ntmps44
  go_wp2_with fail
  refine HT.out.mono ?_
  rintro e w2 ⟨v1, v2, rfl, hb2, hN⟩
  have HB2 := Lib.hid hb2
  by_cases h0 : E = 0
  · subst h0
    have HR1 : Hid (r1 = nE) := Lib.hid (by rw [HE.out, if_pos rfl])
    have HR2 : Hid (r2 = if nE = 0 ∧ nB = true then nC else false) := Lib.hid (by rw [HB.out, if_pos rfl])
    obtain ⟨g1, g2, rfl, rfl, ht1, ht2⟩ := hN (by first | rfl | trivial)
    have HC := Lib.hid (HN.out w2 g1 g2 ht1 ht2)
    have HTT := Lib.hid (And.intro ht1 ht2)
    clear hN ht1 ht2 hb2 HE HB HN
    go_wp2_with fail
    refine HC.out.mono ?_
    rintro e w3 ⟨rfl, hb3⟩
    have HB3 := Lib.hid (below_call HB2.out hb3 (Nat.le_refl _))
    have HC3 := Lib.hid (HN2.out w3 g1 g2 (HTT.out.1.below hb3) (HTT.out.2.below hb3))
    clear hb3 HTT HN2
    by_cases h1 : nE = 0
    · subst h1
      cases nB
      · have HR3 : Hid (r2 = false) := Lib.hid (by rw [HR2.out, if_neg (fun h => by cases h.2)])
        clear HR2
        go_wp2_with fail
        go_ret2
        exact ⟨by rw [HR1.out, HR3.out]; rfl, HB3.out⟩
      · have HR3 : Hid (r2 = nC) := Lib.hid (by rw [HR2.out, if_pos ⟨rfl, rfl⟩])
        clear HR2
        go_wp2_with fail
        refine HC3.out.mono ?_
        rintro e w4 ⟨rfl, hb4⟩
        go_wp2_with fail
        go_ret2
        exact ⟨by rw [HR1.out, HR3.out]; rfl, below_call HB3.out hb4 (Nat.le_refl _)⟩
    · have hne : (nE != 0) = true := by rw [bne_iff_ne]; exact h1
      have HR3 : Hid (r2 = false) := Lib.hid (by rw [HR2.out, if_neg (fun h => h1 h.1)])
      clear HR2
      go_wp2_with fail
      go_ret2
      exact ⟨by rw [HR1.out, HR3.out]; rfl, HB3.out⟩
  · have hne : (E != 0) = true := by rw [bne_iff_ne]; exact h0
    have HR1 : Hid (r1 = E) := Lib.hid (by rw [HE.out, if_neg h0])
    have HR2 : Hid (r2 = false) := Lib.hid (by rw [HB.out, if_neg h0])
    clear hN hb2 HE HB HN HN2
    go_wp2_with fail
    go_ret2
    exact ⟨by rw [HR1.out, HR2.out]; rfl, HB2.out⟩
/-- the reference's atoms are the program's -/
theorem atS1_nam {s : ByteArray} (h : (parseE numF s).2 = 0) : atS1 s = namL (tre s) := ats_both numF_z ((check_parse numF numF_ok s).2 h).1
theorem ev_hol {s : ByteArray} (h : (parseE numF s).2 = 0) (ns : List ByteArray) (m : Nat) : evS ns m s = holF (fun a => isM ns m (txtA a)) (tre s) :=
  tru_flat numF_z _ (isM ns m) ((check_parse numF numF_ok s).2 h).1 (fun _ _ => rfl)
theorem frS_two {a b : ByteArray} (ha : (parseE numF a).2 = 0) (hb : (parseE numF b).2 = 0) (x y : Bool) : frS [a, b] = nevN [(tre a, x), (tre b, y)] := by
  unfold frS nevN
  simp only [List.flatMap_cons, List.flatMap_nil, atS1_nam ha, atS1_nam hb]
theorem frS_one {a : ByteArray} (ha : (parseE numF a).2 = 0) (x : Bool) : frS [a] = nevN [(tre a, x)] := by
  unfold frS nevN
  simp only [List.flatMap_cons, List.flatMap_nil, atS1_nam ha]
theorem freE_two {a b : ByteArray} (ha : (parseE numF a).2 = 0) (hb : (parseE numF b).2 = 0) : freE [a, b] = nevE [(tre a, true), (tre b, false)] := by
  unfold freE nevE
  rw [frS_two ha hb true false]
theorem freE_one {a : ByteArray} (ha : (parseE numF a).2 = 0) : freE [a] = nevE [(tre a, true)] := by
  unfold freE nevE
  rw [frS_one ha true]
theorem all_ext {f g : Nat → Bool} (l : List Nat) (h : ∀ m, f m = g m) : l.all f = l.all g := by
  have : f = g := funext h
  rw [this]
theorem all_and2 (f g : Nat → Bool) : ∀ l : List Nat, l.all (fun m => f m && g m) = (l.all f && l.all g)
  | [] => rfl
  | x :: l => by
    rw [List.all_cons, List.all_cons, List.all_cons, all_and2 f g l]
    cases f x <;> cases g x <;> cases l.all f <;> rfl
theorem imp_both {a b : ByteArray} (ha : (parseE numF a).2 = 0) (hb : (parseE numF b).2 = 0) (h12 : ¬ 12 < (frS [a, b]).length) : (List.range (2 ^ (frS [a, b]).length)).all (soI (frS [a, b]) a b) = nevB [(tre a, true), (tre b, false)] := by
  unfold nevB
  rw [← frS_two ha hb, if_neg h12]
  refine all_ext _ (fun m => ?_)
  unfold soI asB
  rw [ev_hol ha, ev_hol hb]
  simp only [List.all_cons, List.all_nil]
  generalize holF (fun x => isM (frS [a, b]) m (txtA x)) (tre a) = p1
  generalize holF (fun x => isM (frS [a, b]) m (txtA x)) (tre b) = p2
  cases p1 <;> cases p2 <;> simp_all
theorem nvr_both {a : ByteArray} (ha : (parseE numF a).2 = 0) (h12 : ¬ 12 < (frS [a]).length) : (List.range (2 ^ (frS [a]).length)).all (soN (frS [a]) a) = nevB [(tre a, true)] := by
  unfold nevB
  rw [← frS_one ha, if_neg h12]
  refine all_ext _ (fun m => ?_)
  unfold soN asB
  rw [ev_hol ha]
  simp
theorem sm_both {a b : ByteArray} (ha : (parseE numF a).2 = 0) (hb : (parseE numF b).2 = 0) (h12 : ¬ 12 < (frS [a, b]).length) : (List.range (2 ^ (frS [a, b]).length)).all (soS (frS [a, b]) a b) = (nevB [(tre a, true), (tre b, false)] && nevB [(tre a, false), (tre b, true)]) := by
  rw [← imp_both ha hb h12]
  unfold nevB
  rw [← frS_two ha hb, if_neg h12]
  rw [← all_and2]
  refine all_ext _ (fun m => ?_)
  unfold soI soS asB
  rw [ev_hol ha, ev_hol hb]
  simp only [List.all_cons, List.all_nil]
  generalize holF (fun x => isM (frS [a, b]) m (txtA x)) (tre a) = p1
  generalize holF (fun x => isM (frS [a, b]) m (txtA x)) (tre b) = p2
  cases p1 <;> cases p2 <;> rfl
end Go.Proofs.YtfhdknppldobiaaGreatDoor

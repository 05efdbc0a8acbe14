/-
  SlotsOrdered: Order and Drop by one contract each; the faults; a slice without its first.
-/
import Derived.Test.YtejadhehmcifoaaZOrd4
import Derived.Test.YtejadhehmcifoaaZOrd7
import Derived.Test.YtejadhehmcifoaaZDrp2
import Derived.Test.YtejadhehmcifoaaZDrpQ
import Derived.Test.YtejadhehmcifoaaZMov1
import Derived.Test.YtejadhehmcifoaaZMov3
namespace Go.Proofs.Ytejadhehmcifoaa
open Go Go.RowKit

def ordL (xs : List Slt) (rest : Int) : List ByteArray := if ordE xs rest = 0 then (bestR rest xs).1 else []
def ordN (xs : List Slt) (rest : Int) : Int := if ordE xs rest = 0 then (bestR rest xs).2 else 0
theorem order_all (b : Nat) (A : Option Addr) (n c : Nat) (xs : List Slt) (rest : Int) (w : World) (hr : Slts w b A n c xs) (hb : b < w.heap.size) :
    Calls Try.prog 18 #[.slice A n c, .int .i64 rest] w (OrderR (ordL xs rest) (ordN xs rest) (ordE xs rest) w) := by
  by_cases h : ordE xs rest = 0
  · have hSF : slotsF xs = 0 := by
      unfold ordE at h
      by_cases h2 : slotsF xs = 0
      · exact h2
      · rw [if_neg h2] at h; exact absurd h h2
    refine (order1s_calls b A n c xs rest w hr hb h).mono ?_
    rintro e w' ⟨srt, hp, hu, hR⟩
    obtain ⟨h1, h2⟩ := best_alike_ rest xs srt (slots_one hSF) hp hu
    rw [h1, h2] at hR
    unfold ordL ordN
    rw [if_pos h, if_pos h, h]
    exact hR
  · unfold ordL ordN
    rw [if_neg h, if_neg h]
    exact order0_calls b A n c xs rest w hr hb h
theorem drop_all (b : Nat) (A : Option Addr) (n c : Nat) (xs : List Slt) (f by_ : Int) (w : World) (hr : Slts w b A n c xs) (hb : b < w.heap.size) :
    Calls Try.prog 19 #[.slice A n c, .int .i64 f, .int .i64 by_] w (DropS (drpL xs f by_) (drpE xs f by_) w) := by
  by_cases h : drpE xs f by_ = 0
  · rw [h]
    exact drop1_calls b A n c xs f by_ w hr hb h
  · have := drop0_calls b A n c xs f by_ w hr hb h
    unfold drpL
    rw [if_neg h]
    exact this
theorem ordE_first (xs : List Slt) (rest : Int) (h : xs.length ≤ 7) : firstE [slotsF xs, if outB rest 0 86400000 = true then 1 else 0] = ordE xs rest := by
  unfold ordE
  by_cases h0 : slotsF xs = 0
  · have h7 : ¬ 7 < xs.length := by omega
    rw [if_pos h0, if_neg h7, h0]
    cases outB rest 0 86400000 <;> simp [firstE]
  · rw [if_neg h0]
    simp [firstE, h0]
theorem drpE_first (xs : List Slt) (f by_ : Int) (h : xs.length ≤ 16) : firstE [slotsF xs, if momB f = true then 0 else 1, if outB by_ f 345686400000 = true then 1 else 0] = drpE xs f by_ := by
  unfold drpE
  by_cases h0 : slotsF xs = 0
  · have h16 : ¬ 16 < xs.length := by omega
    rw [if_pos h0, if_neg h16, h0]
    cases momB f <;> cases outB by_ f 345686400000 <;> simp [firstE]
  · rw [if_neg h0]
    simp [firstE, h0]
theorem ordE_ok {xs : List Slt} {rest : Int} (h : ordE xs rest = 0) : slotsF xs = 0 ∧ xs.length ≤ 7 ∧ 0 ≤ rest ∧ rest ≤ 86400000 := by
  unfold ordE at h
  by_cases h0 : slotsF xs = 0
  · rw [if_pos h0] at h
    by_cases h7 : 7 < xs.length
    · rw [if_pos h7] at h; exact absurd h (by decide)
    · rw [if_neg h7] at h
      cases ho : outB rest 0 86400000
      · unfold outB at ho
        simp at ho
        exact ⟨h0, by omega, ho.1, ho.2⟩
      · rw [ho] at h; exact absurd h (by decide)
  · rw [if_neg h0] at h; exact absurd h h0
theorem drpE_ok {xs : List Slt} {f y : Int} (h : drpE xs f y = 0) : slotsF xs = 0 ∧ xs.length ≤ 16 ∧ 0 ≤ f ∧ f ≤ 345686399999 ∧ f ≤ y ∧ y ≤ 345686400000 := by
  unfold drpE at h
  by_cases h0 : slotsF xs = 0
  · rw [if_pos h0] at h
    by_cases h16 : 16 < xs.length
    · rw [if_pos h16] at h; exact absurd h (by decide)
    · rw [if_neg h16] at h
      cases hm : momB f
      · rw [hm] at h; exact absurd h (by simp)
      · cases ho : outB y f 345686400000
        · have hf := (momB_iff f).1 hm
          unfold outB at ho
          simp at ho
          exact ⟨h0, by omega, hf.1, hf.2, ho.1, ho.2⟩
        · rw [hm, ho] at h; exact absurd h (by decide)
  · rw [if_neg h0] at h; exact absurd h h0
theorem strs_drop1 {w : World} {b n c g o : Nat} {hs : List ByteArray} (h : Rd w b 1 (.slice (some ⟨g, o, none⟩) n c) n (strsV hs)) (hn : 0 < n) : Rd w b 1 (.slice (if c = 1 then some ⟨g, o, none⟩ else some ⟨g, o + 1, none⟩) (n - 1) (c - 1)) (n - 1) (strsV (hs.drop 1)) := by
  obtain ⟨A', c', e1, e2, e3, e4, e5, e6⟩ := h
  injection e1 with ea eb ec
  subst ea ec
  obtain ⟨g', o', f1, f2, f3⟩ := e6 hn
  injection f1 with f1
  injection f1 with f1 f1'
  subst f1 f1'
  have hl : hs.length = n := by rw [strsV_len] at e4; omega
  have hd : strsV (hs.drop 1) = (strsV hs).drop 1 := by unfold strsV; rw [List.map_drop]
  have h1 : (strsV (hs.drop 1)).length = (n - 1) * 1 := by rw [strsV_len, List.length_drop]; omega
  by_cases hc : c = 1
  · have hn1 : n = 1 := by omega
    subst hc hn1
    exact ⟨some ⟨g, o, none⟩, 0, rfl, Nat.le_refl _, Nat.zero_le _, h1, (fun h => by cases h), fun h => absurd h (by decide)⟩
  · rw [if_neg hc]
    refine ⟨some ⟨g, o + 1, none⟩, c - 1, rfl, by omega, by omega, h1, (fun h => by cases h), fun _ => ⟨g, o + 1, rfl, f2, fun j u hu => ?_⟩⟩
    rw [hd, List.getElem?_drop] at hu
    rw [show o + 1 + j = o + (1 + j) by omega]
    exact f3 (1 + j) u hu
end Go.Proofs.Ytejadhehmcifoaa

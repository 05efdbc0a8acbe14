/-
  What Rate comes to, as a plain function; facts on right ratings and results.
-/
import Derived.Test.YtedfieopmjpibaaGreatDoorZRes
import Derived.Test.YtedfieopmjpibaaGreatDoorZRat2
namespace Go.Proofs.YtedfieopmjpibaaGreatDoor
open Go Go.RowKit

def atR (rs : List Rtd) (who : ByteArray) : Rtd := rs.getD (findR rs who).toNat (⟨#[]⟩, 0, 1)
def thouR (rs : List Rtd) (who : ByteArray) : Int := thou (atR rs who).2.1 (atR rs who).2.2
def wonR (x o : Res) : Int := if x.1 < o.1 then 800000 else if x.1 = o.1 then 400000 else 0
def gainS (rs : List Rtd) (x : Res) (acc : Int) (o : Res) : Int := if eqS o.2.1 x.2.1 = true then acc else acc + wonR x o - RatP.expd (thouR rs x.2.1) (thouR rs o.2.1)
def gainTo (rs : List Rtd) (r : List Res) (x : Res) (j : Nat) : Int := (r.take j).foldl (gainS rs x) 0
def newT (rs : List Rtd) (r : List Res) (wt : Int) (x : Res) : Int :=
  RatP.clampR (RatP.near (thouR rs x.2.1 * ((r.length : Int) - 1) * 800 + wt * gainTo rs r x r.length) (((r.length : Int) - 1) * 800))
def newR (rs : List Rtd) (r : List Res) (wt : Int) (x : Res) (old : Rtd) : Rtd := (old.1, RatP.lowN (newT rs r wt x) 1000, RatP.lowD (newT rs r wt x) 1000)
def rateS (rs : List Rtd) (r : List Res) (wt : Int) (out : List Rtd) (x : Res) : List Rtd :=
  out.set (findR rs x.2.1).toNat (newR rs r wt x (out.getD (findR rs x.2.1).toNat (⟨#[]⟩, 0, 1)))
def rateTo (rs : List Rtd) (r : List Res) (wt : Int) (k : Nat) : List Rtd := (r.take k).foldl (rateS rs r wt) rs

theorem take_foldl {α β : Type} (f : β → α → β) (l : List α) (k : Nat) (hk : k < l.length) (b : β) : (l.take (k + 1)).foldl f b = f ((l.take k).foldl f b) l[k] := by
  rw [List.take_succ_eq_append_getElem hk, List.foldl_append]
  rfl
theorem gainTo_step (rs : List Rtd) (r : List Res) (x : Res) (j : Nat) (hj : j < r.length) : gainTo rs r x (j + 1) = gainS rs x (gainTo rs r x j) r[j] := take_foldl _ _ _ hj _
theorem rateTo_step (rs : List Rtd) (r : List Res) (wt : Int) (k : Nat) (hk : k < r.length) : rateTo rs r wt (k + 1) = rateS rs r wt (rateTo rs r wt k) r[k] := take_foldl _ _ _ hk _
theorem rateTo_len (rs : List Rtd) (r : List Res) (wt : Int) : ∀ k, (rateTo rs r wt k).length = rs.length := by
  intro k
  unfold rateTo
  generalize r.take k = l
  suffices h : ∀ out : List Rtd, (l.foldl (rateS rs r wt) out).length = out.length from h rs
  induction l with
  | nil => intro out; rfl
  | cons a l ih => intro out; simp only [List.foldl_cons]; rw [ih]; unfold rateS; rw [List.length_set]
theorem wonR_bd (x o : Res) : 0 ≤ wonR x o ∧ wonR x o ≤ 800000 := by unfold wonR; split <;> (try split) <;> omega
theorem gainTo_bd (rs : List Rtd) (r : List Res) (x : Res) : ∀ j, j ≤ r.length → -800000 * (j : Int) ≤ gainTo rs r x j ∧ gainTo rs r x j ≤ 800000 * (j : Int) := by
  intro j
  induction j with
  | zero => intro _; simp [gainTo]
  | succ j ih =>
    intro hj
    have h := ih (by omega)
    rw [gainTo_step rs r x j (by omega)]
    have h1 := wonR_bd x r[j]
    have h2 := RatP.expd_bd (thouR rs x.2.1) (thouR rs r[j].2.1)
    unfold gainS
    split <;> omega

theorem ratedG_ok : ∀ (rs : List Rtd) (last : ByteArray), ratedG last rs = 0 → ∀ r ∈ rs, RatOK r.2.1 r.2.2
  | [], _, _, r, hr => by cases hr
  | a :: rs, last, h, r, hr => by
    rw [ratedG] at h
    split at h
    · omega
    · split at h
      · omega
      · split at h
        · rename_i h3
          rcases List.mem_cons.1 hr with rfl | hr
          · exact ratOK_of h3
          · exact ratedG_ok rs a.1 h r hr
        · rename_i h3
          exact absurd h h3
theorem ratedF_ok {rs : List Rtd} (h : ratedF rs = 0) : ∀ r ∈ rs, RatOK r.2.1 r.2.2 := by
  unfold ratedF at h
  split at h
  · omega
  · exact ratedG_ok rs _ h

structure ResOK (rs : List Rtd) (r : List Res) (wt : Int) : Prop where
  small : r.length ≤ 128
  many : r.length ≠ 1
  w1 : 1 ≤ wt
  w2 : wt ≤ 1000
  all : ∀ x ∈ r, 0 ≤ findR rs x.2.1 ∧ findR rs x.2.1 < rs.length ∧ 1 ≤ x.1 ∧ x.1 ≤ 128
theorem resG_ok (rs : List Rtd) (r : List Res) (wt : Int) : ∀ (l : List Res) (k : Nat), resG rs r wt k l = 0 → outB wt 1 1000 = false ∧ r.length ≠ 1 ∧ ∀ x ∈ l, 0 ≤ findR rs x.2.1 ∧ findR rs x.2.1 < rs.length ∧ 1 ≤ x.1 ∧ x.1 ≤ 128
  | [], k, h => by
    rw [resG] at h
    split at h
    · omega
    · split at h
      · omega
      · rename_i h1 h2
        exact ⟨by simpa using h1, h2, fun x hx => by cases hx⟩
  | a :: l, k, h => by
    rw [resG] at h
    split at h
    · omega
    · split at h
      · omega
      · split at h
        · omega
        · rename_i h1 h2 h3
          obtain ⟨g1, g2, g3⟩ := resG_ok rs r wt l (k + 1) h
          refine ⟨g1, g2, fun x hx => ?_⟩
          rcases List.mem_cons.1 hx with rfl | hx
          · have := of_outB (n := x.1) (lo := 1) (hi := 128) (by simpa using h3)
            exact ⟨by omega, (ixOf_ge _ rs).2, this.1, this.2⟩
          · exact g3 x hx
theorem resF_ok {rs : List Rtd} {r : List Res} {wt : Int} (h : resF rs r wt = 0) : ResOK rs r wt := by
  unfold resF at h
  split at h
  · omega
  · obtain ⟨g1, g2, g3⟩ := resG_ok rs r wt r 0 h
    have := of_outB g1
    exact ⟨by omega, g2, this.1, this.2, g3⟩
theorem first_rates (rs : List Rtd) (r : List Res) (wt : Int) : firstE [ratedF rs, resF rs r wt] = ratesF rs r wt := by
  unfold ratesF
  simp only [firstE]
  split
  · split
    · rename_i h; exact h.symm
    · rfl
  · rfl
theorem rates_ok {rs : List Rtd} {r : List Res} {wt : Int} (h : ratesF rs r wt = 0) : ratedF rs = 0 ∧ resF rs r wt = 0 := by
  unfold ratesF at h
  split at h
  · rename_i h1; exact ⟨h1, h⟩
  · rename_i h1; exact absurd h h1
theorem atR_eq {rs : List Rtd} {who : ByteArray} (h1 : findR rs who < rs.length) (h0 : 0 ≤ findR rs who) : ∃ i : Nat, findR rs who = (i : Int) ∧ ∃ hi : i < rs.length, atR rs who = rs[i] := by
  refine ⟨(findR rs who).toNat, by omega, by omega, ?_⟩
  unfold atR
  rw [List.getD_eq_getElem?_getD, List.getElem?_eq_getElem (by omega)]
  rfl
end Go.Proofs.YtedfieopmjpibaaGreatDoor

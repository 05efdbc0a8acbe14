/-
  Expected and Rate, whatever their arguments, by one contract each; ExpectedOf's fraction is Expected's.
-/
import Derived.Test.YtlfhommeomchoaaBs
import Derived.Test.YtlfhommeomchoaaRat5
import Derived.Test.YtlfhommeomchoaaRate2
import Derived.Test.YtlfhommeomchoaaSt
namespace Go.Proofs.Ytlfhommeomchoaa
open Go Go.RowKit

theorem firstE2 {a b : Int} (h : firstE [a, b] = 0) : a = 0 ∧ b = 0 := by
  simp only [firstE] at h
  split at h
  · rename_i ha
    split at h
    · rename_i hb; exact ⟨ha, hb⟩
    · rename_i hb; exact absurd h hb
  · rename_i ha; exact absurd h ha

def xpE (aN aD bN bD : Int) : Int := firstE [ratF aN aD, ratF bN bD]
def xpN (aN aD bN bD : Int) : Int := if xpE aN aD bN bD = 0 then RatP.lowN (RatP.expd (thou aN aD) (thou bN bD)) 800000 else 0
def xpD (aN aD bN bD : Int) : Int := if xpE aN aD bN bD = 0 then RatP.lowD (RatP.expd (thou aN aD) (thou bN bD)) 800000 else 0

theorem expectedB_calls (aN aD bN bD : Int) (w : World) (ha1 : I64 aN) (ha2 : I64 aD) (hb1 : I64 bN) (hb2 : I64 bD) :
    Calls Try.prog 11 #[.agg #[.int .i64 aN, .int .i64 aD], .agg #[.int .i64 bN, .int .i64 bD]] w (FracE (xpN aN aD bN bD) (xpD aN aD bN bD) (xpE aN aD bN bD) w) := by
  by_cases h : xpE aN aD bN bD = 0
  · obtain ⟨h1, h2⟩ := firstE2 h
    unfold xpN xpD
    rw [if_pos h, if_pos h, h]
    exact expected1_calls aN aD bN bD w ha1 ha2 hb1 hb2 (ratOK_of h1) (ratOK_of h2) h
  · unfold xpN xpD
    rw [if_neg h, if_neg h]
    exact expected0_calls aN aD bN bD w ha1 ha2 hb1 hb2 h

theorem expectedOfB_calls (aN aD bN bD : Int) (w : World) (h : xpE aN aD bN bD = 0) :
    Calls Try.prog 16 #[.agg #[.int .i64 aN, .int .i64 aD], .agg #[.int .i64 bN, .int .i64 bD]] w (FracB (xpN aN aD bN bD) (xpD aN aD bN bD) w) := by
  obtain ⟨h1, h2⟩ := firstE2 h
  have hi := exp_is (ratOK_of h1) (ratOK_of h2)
  have := expectedOf_calls aN aD bN bD w (ratOK_of h1) (ratOK_of h2)
  unfold xpN xpD
  rw [if_pos h, if_pos h, ← hi.1, ← hi.2]
  exact this

def rateL (rs : List Rtd) (r : List Res) (wt : Int) : List Rtd := if ratesF rs r wt = 0 then rateTo rs r wt r.length else []

/-- a list and an error were returned -/
def RateE (rs : List Rtd) (r : List Res) (wt : Int) (w : World) (e : Ending) (w' : World) : Prop :=
  ∃ v, e = .returned (.tuple #[v, .int .i64 (ratesF rs r wt)]) ∧ w'.ownsRow w.heap.size 47 3 v (rateL rs r wt).length ((rateL rs r wt).flatMap ratedC) ∧ Below w.heap.size w w'

theorem rd_len3 {w : World} {b n : Nat} {v : Value} {rs : List Rtd} (h : Rd w b 3 v n (rs.flatMap ratedC)) : n = rs.length := by
  have h1 := h.len
  have h2 : (rs.flatMap ratedC).length = rs.length * 3 := by
    clear h h1
    induction rs with
    | nil => rfl
    | cons a l ih => rw [List.flatMap_cons, List.length_append, ih, ratedC_len, List.length_cons]; omega
  omega

theorem rateB_calls (b : Nat) (A : Option Addr) (n c : Nat) (rs : List Rtd) (A2 : Option Addr) (m c2 : Nat) (r : List Res) (wt : Int) (w : World) (hr : Rd w b 3 (.slice A n c) n (rs.flatMap ratedC)) (hr2 : Rd w b 3 (.slice A2 m c2) m (r.flatMap resC)) (hrs : Rts rs) (hss : Rss r) :
    Calls Try.prog 12 #[.slice A n c, .slice A2 m c2, .int .i64 wt] w (RateE rs r wt w) := by
  by_cases h : ratesF rs r wt = 0
  · refine (rate1_calls b A n c rs A2 m c2 r wt w hr hr2 hrs hss h).mono ?_
    rintro e w' ⟨v, rfl, ho, hb⟩
    have hn : (rateTo rs r wt r.length).length = n := by rw [rateTo_len, rd_len3 hr]
    refine ⟨v, by rw [h], ?_, hb⟩
    unfold rateL
    rw [if_pos h, hn]
    exact ho
  · refine (rate0_calls b A n c rs A2 m c2 r wt w hr hr2 hrs hss h).mono ?_
    rintro e w' ⟨rfl, hb⟩
    refine ⟨.slice none 0 0, rfl, ?_, hb⟩
    unfold rateL
    rw [if_neg h]
    exact ⟨rfl, .inl ⟨rfl, rfl⟩⟩
end Go.Proofs.Ytlfhommeomchoaa

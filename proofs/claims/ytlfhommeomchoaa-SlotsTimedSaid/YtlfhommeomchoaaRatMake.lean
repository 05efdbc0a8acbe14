/-
  Ratings, rated players and ranks as the stream makes them, by contracts.
-/
import Derived.Test.YtlfhommeomchoaaFlat
import Derived.Test.YtlfhommeomchoaaStream4
import Derived.Test.YtlfhommeomchoaaNum2
namespace Go.Proofs.Ytlfhommeomchoaa
open Go Go.RowKit

def fracC (p : Int × Int) : List Value := [.int .i64 p.1, .int .i64 p.2]
theorem fracC_len (p : Int × Int) : (fracC p).length = 2 := rfl

/-- a fraction was drawn -/
def FracS (b K : Nat) (w : World) (e : Ending) (w' : World) : Prop :=
  ∃ n d : Int, e = .returned (.agg #[.int .i64 n, .int .i64 d]) ∧ I64 n ∧ I64 d ∧ Strm w' b K ∧ Bx w.heap.size b w w'

def rightFr : List (Int × Int) := [(1500, 1), (1600, 1), (1400, 1), (3001, 2), (-1, 1000), (0, 1), (10000, 1), (-10000, 1)]
def wrongFr : List (Int × Int) := [(2, 2), (1, 0), (1, 3), (10001, 1), (1, -1), (0, 2), (-9223372036854775808, 1), (1, 4611686018427387904)]

/-- a struct of two numbers out of a literal -/
theorem frac_at {w w' : World} {b : Nat} {cs : Array Value} {t : TypeId} (ps : List (Int × Int)) (hcs : cs.toList = ps.flatMap fracC) (hp : ∀ p ∈ ps, I64 p.1 ∧ I64 p.2) (hb : b < w.heap.size)
    (k : Bx (w.alloc (.cells cs t)).heap.size b (w.alloc (.cells cs t)) w') (i : Nat) (hi : i < ps.length) :
    ∃ n d : Int, w'.cell? ⟨w.heap.size, i * 2, none⟩ = some (.int .i64 n) ∧ w'.cell? ⟨w.heap.size, i * 2 + 1, none⟩ = some (.int .i64 d) ∧ I64 n ∧ I64 d := by
  have hc : ∀ j, (w.alloc (.cells cs t)).cell? ⟨w.heap.size, j, none⟩ = (ps.flatMap fracC)[j]? := fun j => by
    rw [cell_of_row _ w.heap.size j cs t (0, 0) (heap_alloc_new w _), ← hcs]; simp
  have h0 := flat_get fracC 2 fracC_len ps i 0 hi (by omega)
  have h1 := flat_get fracC 2 fracC_len ps i 1 hi (by omega)
  have hne : w.heap.size ≠ b := by omega
  exact ⟨ps[i].1, ps[i].2, k.cell ((hc _).trans h0) hne, k.cell ((hc _).trans h1) hne, hp _ (List.getElem_mem hi)⟩

theorem rating_calls (b K : Nat) (w : World) (hs : Strm w b K) (hK : K ≤ 1000000) :
    Calls Try.prog 7 #[.pointer (some ⟨b, 0, none⟩)] w (FracS b (K + 3) w) := by
  have hlt := hs.lt
  go_enter Try.func7, Try.ntmps7
  go_wp2_with fail
  refine (next_calls b K _ _ (by omega) (by omega) ((hs.alloc _).alloc _) (by omega)).mono ?_
  rintro e w1 ⟨v, rfl, g1, g2, hs1, hb1⟩
  obtain ⟨i, rfl⟩ := Int.eq_ofNat_of_zero_le g1
  obtain ⟨n, d, hc0, hc1, hn, hd⟩ := frac_at rightFr rfl (by unfold I64 rightFr; simp) (by simp; omega) hb1 i (by simp [rightFr]; omega)
  simp at hc0 hc1
  have B0 : Blk w1 w.heap.size 27 #[.int .i64 0, .int .i64 0] := ((Blk.new w _ _).alloc _).bx hb1 (by omega)
  have hz1 := hb1.size
  simp at hz1
  go_wp2_with fail
  refine (flip_calls b (K + 1) _ _ (by omega) (by omega) (hs1.alloc _) (by omega)).mono ?_
  rintro e w2 ⟨v, rfl, hs2, hb2⟩
  have hb3 : Bx w.heap.size b w w2 := ((((Bx.refl w.heap.size b w).alloc (Nat.le_refl _) _).alloc (Nat.le_refl _) _).call hb1 (by simp) |>.alloc (Nat.le_refl _) _).call hb2 (Nat.le_refl _)
  have B1 : Blk w2 w1.heap.size 27 #[.int .i64 n, .int .i64 d] := (Blk.new w1 _ _).bx hb2 (by omega)
  have B0 : Blk w2 w.heap.size 27 #[.int .i64 0, .int .i64 0] := (B0.alloc _).bx hb2 (by omega)
  obtain ⟨b1, b2, b3, b4⟩ := B0.two
  obtain ⟨b5, b6, b7, b8⟩ := B1.two
  cases v
  · clear hc0 hc1
    go_wp2_with fail
    refine bodyPost_ret (v := .agg #[.int .i64 n, .int .i64 d]) (by simp [results, Try.results7, go_sem, b1, b2]) rfl ⟨n, d, rfl, hn, hd, (hs2.setCell (p := ⟨w.heap.size, 0, none⟩) hlt _).setCell (p := ⟨w.heap.size, 1, none⟩) hlt _ |>.more (by omega), (hb3.setCell (p := ⟨w.heap.size, 0, none⟩) (.inr (Nat.le_refl _)) _).setCell (p := ⟨w.heap.size, 1, none⟩) (.inr (Nat.le_refl _)) _⟩
  · clear hc0 hc1
    go_wp2_with fail
    refine (next_calls b (K + 2) _ _ (by omega) (by omega) (hs2.alloc _) (by omega)).mono ?_
    rintro e w3 ⟨v, rfl, p1, p2, hs3, hb4⟩
    obtain ⟨j, rfl⟩ := Int.eq_ofNat_of_zero_le p1
    obtain ⟨n2, d2, hc2, hc3, hn2, hd2⟩ := frac_at wrongFr rfl (by unfold I64 wrongFr; simp) hs2.lt hb4 j (by simp [wrongFr]; omega)
    have hz2 := hb2.size
    simp at hz2
    have B1 : Blk w3 w1.heap.size 27 #[.int .i64 n, .int .i64 d] := (B1.alloc _).bx hb4 (by omega)
    have B0 : Blk w3 w.heap.size 27 #[.int .i64 0, .int .i64 0] := (B0.alloc _).bx hb4 (by omega)
    have hb5 := (hb3.alloc (Nat.le_refl _) _).call hb4 (Nat.le_refl _)
    clear b1 b2 b3 b4 b5 b6 b7 b8
    obtain ⟨b1, b2, b3, b4⟩ := B0.two
    obtain ⟨b5, b6, b7, b8⟩ := B1.two
    clear hb1 hb2 hb4 hs1 hs2 hs B0 B1
    have hgt : w.heap.size ≤ w1.heap.size := by omega
    have hne : w1.heap.size ≠ w.heap.size := by omega
    have hbb : b < w1.heap.size := by omega
    clear hz1 hz2
    go_wp2_with fail
    refine bodyPost_ret (v := .agg #[.int .i64 n2, .int .i64 d2]) (by simp [results, Try.results7, go_sem, b1, b2]) rfl ⟨n2, d2, rfl, hn2, hd2, ?_, ?_⟩
    · exact (((hs3.setCell (p := ⟨w1.heap.size, 0, none⟩) hbb _).setCell (p := ⟨w1.heap.size, 1, none⟩) hbb _).setCell (p := ⟨w.heap.size, 0, none⟩) hlt _).setCell (p := ⟨w.heap.size, 1, none⟩) hlt _
    · exact (((hb5.setCell (p := ⟨w1.heap.size, 0, none⟩) (.inr hgt) _).setCell (p := ⟨w1.heap.size, 1, none⟩) (.inr hgt) _).setCell (p := ⟨w.heap.size, 0, none⟩) (.inr (Nat.le_refl _)) _).setCell (p := ⟨w.heap.size, 1, none⟩) (.inr (Nat.le_refl _)) _
end Go.Proofs.Ytlfhommeomchoaa

/-
  Ratings, rated players and ranks as the stream makes them, by contracts.
-/
import Derived.Test.YtedfieopmjpibaaGreatDoorZFlat
import Derived.Test.YtedfieopmjpibaaGreatDoorZStream4
import Derived.Test.YtedfieopmjpibaaGreatDoorZNum
namespace Go.Proofs.YtedfieopmjpibaaGreatDoor
open Go Go.RowKit

def fracC (p : Int × Int) : List Value := [.int .i64 p.1, .int .i64 p.2]
theorem fracC_len (p : Int × Int) : (fracC p).length = 2 := rfl

/-- a fraction was drawn -/
def FracS (b K : Nat) (w : World) (e : Ending) (w' : World) : Prop :=
  ∃ n d : Int, e = .returned (.agg #[.int .i64 n, .int .i64 d]) ∧ I64 n ∧ I64 d ∧ Strm w' b K ∧ Bx w.heap.size b w w'

def rightFr : List (Int × Int) := [(1500, 1), (1600, 1), (1400, 1), (3001, 2), (-1, 1000), (0, 1), (10000, 1), (-10000, 1)]
def wrongFr : List (Int × Int) := [(2, 2), (1, 0), (1, 3), (10001, 1), (1, -1), (0, 2), (-9223372036854775808, 1), (1, 4611686018427387904)]

/-- a struct of two numbers out of a literal -/
theorem frac_at {w w' : World} {b : Nat} {cs : Array Value} {t : TypeId} (ps : List (Int × Int)) (hcs : cs.toList = ps.flatMap fracC) (hp : ∀ p ∈ ps, I64 p.1 ∧ I64 p.2) (hb : b < w.heap.size)
    (k : Bx (w.alloc (.cells cs t)).heap.size b (w.alloc (.cells cs t)) w') (i : Nat) (hi : i < ps.length) :
    ∃ n d : Int, w'.cell? ⟨w.heap.size, i * 2, none⟩ = some (.int .i64 n) ∧ w'.cell? ⟨w.heap.size, i * 2 + 1, none⟩ = some (.int .i64 d) ∧ I64 n ∧ I64 d := by
  have hc : ∀ j, (w.alloc (.cells cs t)).cell? ⟨w.heap.size, j, none⟩ = (ps.flatMap fracC)[j]? := fun j => by
    rw [cell_of_row _ w.heap.size j cs t (0, 0) (heap_alloc_new w _), ← hcs]; simp
  have h0 := flat_get fracC 2 fracC_len ps i 0 hi (by omega)
  have h1 := flat_get fracC 2 fracC_len ps i 1 hi (by omega)
  have hne : w.heap.size ≠ b := by omega
  exact ⟨ps[i].1, ps[i].2, k.cell ((hc _).trans h0) hne, k.cell ((hc _).trans h1) hne, hp _ (List.getElem_mem hi)⟩

end Go.Proofs.YtedfieopmjpibaaGreatDoor
/-
  Rated players as the stream makes them, by contracts.
-/
namespace Go.Proofs.YtedfieopmjpibaaGreatDoor
open Go Go.RowKit

abbrev Rtd := ByteArray × Int × Int
def ratedC (r : Rtd) : List Value := [.string r.1, .int .i64 r.2.1, .int .i64 r.2.2]
theorem ratedC_len (r : Rtd) : (ratedC r).length = 3 := rfl
def RtOK (r : Rtd) : Prop := r.1.size ≤ 1000 ∧ I64 r.2.1 ∧ I64 r.2.2
def Rts (rs : List Rtd) : Prop := ∀ r ∈ rs, RtOK r
theorem Rts.snoc {rs : List Rtd} {r : Rtd} (h : Rts rs) (hr : RtOK r) : Rts (rs ++ [r]) := by
  intro x hx
  rcases List.mem_append.1 hx with hx | hx
  · exact h x hx
  · simp at hx; rw [hx]; exact hr
theorem Rts.set {rs : List Rtd} {r : Rtd} (h : Rts rs) (i : Nat) (hr : RtOK r) : Rts (rs.set i r) := by
  intro x hx
  rcases List.mem_or_eq_of_mem_set hx with hx | hx
  · exact h x hx
  · rw [hx]; exact hr
theorem low_I64 {n d : Int} (hn : -9223372036854775807 ≤ n ∧ n ≤ 9223372036854775807) (hd0 : 1 ≤ d) (hd : d ≤ 9223372036854775807) : I64 (RatP.lowN n d) ∧ I64 (RatP.lowD n d) := by
  have h1 := RatP.lowN_abs (n := n) (d := d) (by omega)
  have h2 := RatP.lowD_pos (n := n) (d := d) (by omega)
  have h3 := RatP.lowD_le (n := n) (d := d) (by omega)
  unfold I64 at *
  exact ⟨⟨by omega, by omega⟩, by omega, by omega⟩

/-- strings of a literal -/
theorem strs_at (ss : List ByteArray) (k : Nat) (hk : k < ss.length) : (ss.map Value.string).toArray[k]? = some (.string ss[k]) := by
  simp [hk]

theorem info_rated : (Tryz.prog.info? 44).map (fun i => (i.zero, i.size, i.bytes)) = some (some (.agg #[.string ⟨#[]⟩, .int .i64 0, .int .i64 0]), 3, 32) := by kernel_rfl

/-- rated players in new memory -/
def RatedS (b K : Nat) (w : World) (e : Ending) (w' : World) : Prop :=
  ∃ (v : Value) (rs : List Rtd), e = .returned v ∧ w'.ownsRow w.heap.size 44 3 v rs.length (rs.flatMap ratedC) ∧ rs.length ≤ 4 ∧ Rts rs ∧ Strm w' b K ∧ Bx w.heap.size b w w'

def names4 : List ByteArray := [⟨#[97, 110, 110]⟩, ⟨#[98, 101, 97]⟩, ⟨#[99, 105, 100]⟩, ⟨#[100, 97, 110]⟩]
theorem names4_le : ∀ s ∈ names4, s.size ≤ 1000 := by decide
theorem str_cell {w : World} {g : Nat} {t : TypeId} {cs : Array Value} (ss : List ByteArray) (h : Blk w g t cs) (hc : cs = (ss.map Value.string).toArray) (hs : ∀ s ∈ ss, s.size ≤ 1000) (k : Nat) (hk : k < ss.length) :
    ∃ s : ByteArray, w.cell? ⟨g, k, none⟩ = some (.string s) ∧ s.size ≤ 1000 :=
  ⟨ss[k], by rw [h.cell, hc, strs_at ss k hk], hs _ (List.getElem_mem hk)⟩

set_option maxRecDepth 100000 in
theorem rightRated_calls (b K : Nat) (w : World) (hs : Strm w b K) (hK : K ≤ 1000000) :
    Calls Tryz.prog 13 #[.pointer (some ⟨b, 0, none⟩)] w (RatedS b (K + 12) w) := by
  have hlt := hs.lt
  obtain ⟨i0, hi, hz0, hz1, hz2⟩ := info_parts info_rated
  go_enter Tryz.func13, Tryz.ntmps13
  go_wp2_with fail
  go_loopw [3, 8] (fun v i wr => ∃ (k : Nat) (rs : List Rtd), k ≤ 4 ∧ rs.length ≤ k ∧ i = .int .i64 k ∧ wr.ownsRow w.heap.size 44 3 v rs.length (rs.flatMap ratedC) ∧ Rts rs ∧ Strm wr b (K + 3 * k) ∧ Bx w.heap.size b w wr ∧
      Blk wr w.heap.size 9 (names4.map Value.string).toArray) (fun _ i _ => 4 - (intOf i).toNat)
  case atStart => exact ⟨0, [], Nat.zero_le _, Nat.zero_le _, rfl, World.ownsRow_nil _ _ _ _, (by intro x hx; cases hx), hs.alloc _, (Bx.refl _ _ _).alloc (Nat.le_refl _) _, Blk.new _ _ _⟩
  case round =>
    obtain ⟨k, rs, hk, hrk, rfl, hown, hrs, hsr, hbr, hblk⟩ := hrel
    by_cases hlt4 : k < 4
    · obtain ⟨s, hnm, hsz⟩ := str_cell names4 hblk rfl names4_le k hlt4
      go_wp2_with fail
      refine (flip_calls b _ _ _ (by omega) (by omega) hsr (by omega)).mono ?_
      rintro e w1 ⟨v, rfl, hs1, hb1⟩
      have hb1' := hbr.call hb1 (Nat.le_refl _)
      have hown1 := own_bx hown hb1 (by omega)
      have hblk1 := hblk.bx hb1 (by omega)
      clear hown hblk hsr hbr hb1 hnm
      cases v
      · go_wp2_with fail
        refine (range_calls b _ _ _ _ (by omega) (by omega) (by omega) hs1 (by omega)).mono ?_
        rintro e w2 ⟨p, rfl, p1, p2, hs2, hb2⟩
        go_wp2_with fail
        refine (range_calls b _ _ _ _ (by omega) (by omega) (by omega) hs2 (by omega)).mono ?_
        rintro e w3 ⟨q, rfl, q1, q2, hs3, hb3⟩
        go_wp2_with fail
        refine (lowest_calls _ _ _ (by omega) (by omega) (by omega) (by omega)).mono ?_
        rintro e w4 ⟨rfl, hb4⟩
        have hlo := low_I64 (n := 1000 * p + q) (d := 1000) (by omega) (by omega) (by omega)
        have hown2 := own_below (own_bx (own_bx hown1 hb2 (by omega)) hb3 (by omega)) hb4
        have hblk2 := ((hblk1.bx hb2 (by omega)).bx hb3 (by omega)).below hb4
        have hs4 := hs3.below hb4
        have hb5 := ((hb1'.call hb2 (Nat.le_refl _)).call hb3 (Nat.le_refl _)).callB hb4 (Nat.le_refl _)
        obtain ⟨N, hN⟩ : ∃ N, RatP.lowN (1000 * p + q) 1000 = N := ⟨_, rfl⟩
        obtain ⟨D, hD⟩ : ∃ D, RatP.lowD (1000 * p + q) 1000 = D := ⟨_, rfl⟩
        rw [hN, hD] at hlo ⊢
        clear hown1 hblk1 hs1 hs2 hs3 hb1' hb2 hb3 hb4 hN hD
        have hbz := hb5.size
        go_wp2_with (first
          | (at_builtin; refine wpList_append_own _ rfl _ _ 41 rfl w.heap.size 44 i0 (.agg #[.string ⟨#[]⟩, .int .i64 0, .int .i64 0]) 3 32 Tryz.underlying41 hi hz0 hz1 hz2 rfl (by decide) _ _ _ rfl (hown2.alloc _) ⟨w4.heap.size, 0, none⟩ 1 1 [.string s, .int .i64 N, .int .i64 D] rfl rfl (World.news_of_block (heap_alloc_new _ _)) (by simp [Value.oneCell']) (by unfold maxLen; omega) (by omega) (by simp; omega) ?_; intro v' w5 hown' hgrow hnil))
        have hb6 : Bx w.heap.size b w w5 := (hb5.alloc (Nat.le_refl _) _).grown hgrow (Nat.le_refl _) (fun q hq => .inr (hown2.lt q hq).1)
        have hs5 := (hs4.alloc _).grown hgrow (fun q hq => by have := (hown2.lt q hq).1; omega)
        have hblk3 := (hblk2.alloc _).grown hgrow (own_blk_ne hown2 hblk2 (by decide)).symm
        have hrs' := hrs.snoc (r := (s, N, D)) ⟨hsz, hlo⟩
        have hown3 : w5.ownsRow w.heap.size 44 3 v' (rs ++ [(s, N, D)]).length ((rs ++ [(s, N, D)]).flatMap ratedC) := by
          rw [flat_snoc, List.length_append]; exact hown'
        have hle : (rs ++ [(s, N, D)]).length ≤ k + 1 := by simp; omega
        clear hown' hgrow hnil hown2 hblk2 hb5 hs4
        go_wp2
        go_roundw
        case rel => exact ⟨k + 1, _, by omega, hle, by go_num, hown3, hrs', hs5.more (by omega), hb6, hblk3⟩
        case measure => simp [intOf]; omega
      · go_wp2
        go_roundw
        case rel => exact ⟨k + 1, rs, by omega, by omega, by go_num, hown1, hrs, hs1.more (by omega), hb1', hblk1⟩
        case measure => simp [intOf]; omega
    · go_wp2
      go_ret
      exact ⟨_, rs, rfl, hown, by omega, hrs, hsr.more (by omega), hbr⟩
end Go.Proofs.YtedfieopmjpibaaGreatDoor

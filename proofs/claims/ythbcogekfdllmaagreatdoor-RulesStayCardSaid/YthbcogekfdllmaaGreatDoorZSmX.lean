/-
  Some of the stream, to the letter: which string it answers. (Turned from XStrX's Pick.)
-/
import Derived.Test.YthbcogekfdllmaaGreatDoorZStrX
import Derived.Test.YthbcogekfdllmaaGreatDoorZSepX
namespace Go.Proofs.YthbcogekfdllmaaGreatDoor
open Go Go.RowKit

/-- one of some strings -/
def smX (zs : ZsT) (p : Nat) (xs : List ByteArray) : ByteArray := (xs[(nxX zs p (xs.length : Int)).toNat]?).getD ⟨#[]⟩
theorem someX_calls (b p : Nat) (zs : ZsT) (A : Option Addr) (n c : Nat) (xs : List ByteArray) (w : World) (h0 : 0 < n) (hr : Rd w b 1 (.slice A n c) n (xs.map Value.string)) (hs : StrmX w b zs p) (hp : p ≤ 1000000) :
    Calls Tryz.prog 45 #[.pointer (some ⟨b, 0, none⟩), .slice A n c] w (DrX (.string (smX zs p xs)) b zs (p + 1) w) := by
  obtain ⟨A', c', e1, e2, e3, e4, e5, e6⟩ := hr
  injection e1 with ea eb ec
  subst ea ec
  obtain ⟨g, o, rfl, f2, f3⟩ := e6 h0
  unfold maxLen at e3
  have hxl : xs.length = n := by simpa using e4
  have hbd := nxX_bd zs p (n := (n : Int)) (by omega)
  have HN := Lib.hid (nextX_calls b p zs (n : Int) w (by omega) (by omega) hs hp)
  have hpk : smX zs p xs = (xs[(nxX zs p (n : Int)).toNat]?).getD ⟨#[]⟩ := by unfold smX; rw [hxl]
  rw [hpk]
  obtain ⟨v, hv⟩ : ∃ v, nxX zs p (n : Int) = v := ⟨_, rfl⟩
  rw [hv] at HN hbd ⊢
  obtain ⟨i, rfl⟩ := Int.eq_ofNat_of_zero_le hbd.1
  have hi : i < n := by omega
  have hil : i < xs.length := by omega
  have hx : (xs[((i : Int)).toNat]?).getD ⟨#[]⟩ = xs[i] := by rw [Int.toNat_natCast, List.getElem?_eq_getElem hil]; rfl
  rw [hx]
  obtain ⟨z, hz⟩ : ∃ z, xs[i] = z := ⟨_, rfl⟩
  have hcw : w.cell? ⟨g, o + i, none⟩ = some (.string z) := f3 i _ (by rw [List.getElem?_map, List.getElem?_eq_getElem hil, hz]; rfl)
  rw [hz]
  have HC := Lib.hid hcw
  have hi0 : (0 : Int) ≤ (i : Int) := by omega
  have hi1 : (i : Int) < (n : Int) := by omega
  clear f3 hz hx hv hpk hcw e4 e5 e6
  go_enter Tryz.func45, Tryz.ntmps45
  go_wp2_with fail
  refine HN.out.mono ?_
  rintro e w' ⟨rfl, hs', hb'⟩
  have hc : w'.cell? ⟨g, o + i, none⟩ = some (.string z) := hb'.cell HC.out f2
  go_wp2_with fail
  go_ret
  exact ⟨rfl, hs', hb'⟩
section
variable {zs : ZsT} {w W : World} {b p : Nat} {l : List Rsc}
end
theorem smX_mem (zs : ZsT) (p : Nat) (xs : List ByteArray) (h0 : 0 < xs.length) : smX zs p xs ∈ xs := by
  have hb := nxX_bd zs p (n := (xs.length : Int)) (by omega)
  unfold smX
  have hl : (nxX zs p (xs.length : Int)).toNat < xs.length := by omega
  rw [List.getElem?_eq_getElem hl]
  exact List.getElem_mem hl
end Go.Proofs.YthbcogekfdllmaaGreatDoor
/-
  The stream to the letter, with each answer named and its bounds beside it. (The words of XSep over XSepX.)
-/
namespace Go.Proofs.YthbcogekfdllmaaGreatDoor
open Go Go.RowKit

section
variable {zs : ZsT} {w W : World} {b p : Nat} {l : List Rsc}
theorem spE_next (h : SpX zs w b p W l) (n : Int) (hn : 1 ≤ n) (hn' : n ≤ 9223372036854775807) (hp : p ≤ 1000000) :
    Calls Tryz.prog 47 #[.pointer (some ⟨b, 0, none⟩), .int .i64 n] W (fun e w' => ∃ q : Int, e = .returned (.int .i64 q) ∧ Hid (nxX zs p n = q) ∧ 0 ≤ q ∧ q < n ∧ SpX zs w b (p + 1) w' l) :=
  (spx_next h n hn hn' hp).mono (fun _e _w' ⟨he, hs⟩ => ⟨_, he, Lib.hid rfl, (nxX_bd zs p hn).1, (nxX_bd zs p hn).2, hs⟩)
theorem spE_range (h : SpX zs w b p W l) (lo hi : Int) (h1 : lo ≤ hi) (hlo : -2305843009213693952 ≤ lo) (hhi : hi ≤ 2305843009213693951) (hp : p ≤ 1000000) :
    Calls Tryz.prog 7 #[.pointer (some ⟨b, 0, none⟩), .int .i64 lo, .int .i64 hi] W (fun e w' => ∃ q : Int, e = .returned (.int .i64 q) ∧ Hid (lo + nxX zs p (hi - lo + 1) = q) ∧ lo ≤ q ∧ q ≤ hi ∧ SpX zs w b (p + 1) w' l) :=
  (spx_range h lo hi h1 hlo hhi hp).mono (fun _e _w' ⟨he, hs⟩ => by
    have := nxX_bd zs p (n := hi - lo + 1) (by omega)
    exact ⟨_, he, Lib.hid rfl, by omega, by omega, hs⟩)
theorem spE_flip (h : SpX zs w b p W l) (n : Int) (hn : 1 ≤ n) (hn' : n ≤ 9223372036854775807) (hp : p ≤ 1000000) :
    Calls Tryz.prog 61 #[.pointer (some ⟨b, 0, none⟩), .int .i64 n] W (fun e w' => ∃ fv : Bool, e = .returned (.bool fv) ∧ Hid ((nxX zs p n == 0) = fv) ∧ SpX zs w b (p + 1) w' l) :=
  (spx_flip h n hn hn' hp).mono (fun _e _w' ⟨he, hs⟩ => ⟨_, he, Lib.hid rfl, hs⟩)
theorem spE_odd (h : SpX zs w b p W l) (lo hi : Int) (h1 : lo ≤ hi) (hlo : -1000000000000 ≤ lo) (hhi : hi ≤ 1000000000000) (hp : p ≤ 900000) :
    Calls Tryz.prog 63 #[.pointer (some ⟨b, 0, none⟩), .int .i64 lo, .int .i64 hi] W (fun e w' => ∃ q : Int, e = .returned (.int .i64 q) ∧ Hid (oddX zs p lo hi = q) ∧ -1099511627776 ≤ q ∧ q ≤ 1099511627776 ∧ SpX zs w b (p + 2) w' l) :=
  (spx_odd h lo hi h1 hlo hhi hp).mono (fun _e _w' ⟨he, hs⟩ => ⟨_, he, Lib.hid rfl, (oddX_bd zs p lo hi h1 hlo hhi).1, (oddX_bd zs p lo hi h1 hlo hhi).2, hs⟩)
theorem spE_pickL (h : SpX zs w b p W l) (xs : List Int) (lo hi : Int) (cs : Array Value) (t : TypeId) (n : Nat) (hx : cs.toList = xs.map (Value.int .i64)) (h0 : 0 < n) (hn : n ≤ maxLen) (hs : cs.size = n) (hl : 0 < xs.length) (hb : ∀ x ∈ xs, lo ≤ x ∧ x ≤ hi) (hp : p ≤ 1000000) :
    Calls Tryz.prog 46 #[.pointer (some ⟨b, 0, none⟩), .slice (some ⟨W.heap.size, 0, none⟩) n n] (W.alloc (.cells cs t)) (fun e w' => ∃ q : Int, e = .returned (.int .i64 q) ∧ Hid (pkX zs p xs = q) ∧ lo ≤ q ∧ q ≤ hi ∧ SpX zs w b (p + 1) w' l) :=
  (spx_pickL h xs cs t n hx h0 hn hs hp).mono (fun _e _w' ⟨he, hS⟩ => ⟨_, he, Lib.hid rfl, (pkX_bd zs p xs lo hi hl hb).1, (pkX_bd zs p xs lo hi hl hb).2, hS⟩)
/-- of a literal that was laid before -/
theorem spE_someN (N : Nat) (h : SpX zs w b p W l) (i : Nat) {g n : Nat} {t : TypeId} {cs : Array Value} (xs : List ByteArray) (hi : l[i]? = some (rBlk g t cs)) (hx : cs.toList = xs.map Value.string) (h0 : 0 < n) (hn : n ≤ maxLen) (hs : cs.size = n) (hb : ∀ x ∈ xs, x.size ≤ N) (hp : p ≤ 1000000) :
    Calls Tryz.prog 45 #[.pointer (some ⟨b, 0, none⟩), .slice (some ⟨g, 0, none⟩) n n] W (fun e w' => ∃ s : ByteArray, e = .returned (.string s) ∧ Hid (smX zs p xs = s) ∧ s.size ≤ N ∧ SpX zs w b (p + 1) w' l) := by
  have hr := blkRd (b := b) 1 n (h.nth i hi) (h.ne i hi) hn (by omega)
  rw [hx] at hr
  have hl : 0 < xs.length := by
    have := congrArg List.length hx
    rw [List.length_map] at this
    have h2 : cs.toList.length = n := by simpa using hs
    omega
  exact (someX_calls b p zs _ n n xs _ h0 hr h.strm hp).mono (fun _e _w' ⟨he, hs, hk⟩ => ⟨_, he, Lib.hid rfl, hb _ (smX_mem zs p xs hl), h.call hs hk⟩)
theorem spE_someLN (N : Nat) (h : SpX zs w b p W l) (xs : List ByteArray) (cs : Array Value) (t : TypeId) (n : Nat) (hx : cs.toList = xs.map Value.string) (h0 : 0 < n) (hn : n ≤ maxLen) (hs : cs.size = n) (hb : ∀ x ∈ xs, x.size ≤ N) (hp : p ≤ 1000000) :
    Calls Tryz.prog 45 #[.pointer (some ⟨b, 0, none⟩), .slice (some ⟨W.heap.size, 0, none⟩) n n] (W.alloc (.cells cs t)) (fun e w' => ∃ s : ByteArray, e = .returned (.string s) ∧ Hid (smX zs p xs = s) ∧ s.size ≤ N ∧ SpX zs w b (p + 1) w' l) :=
  (spE_someN N (h.add cs t) 0 xs rfl hx h0 hn hs hb hp).mono (fun _e _w' ⟨_s, he, hm, h1, hs⟩ => ⟨_, he, hm, h1, hs.tail⟩)
end
end Go.Proofs.YthbcogekfdllmaaGreatDoor

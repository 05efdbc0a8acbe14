/-
  Words and lines by contracts: strings.Split at one byte, base.Words and splitref2.Words, base.Lines.
-/
import Derived.Test.YtfmljboogkhobaaGreatDoorZTxt1
import Derived.Test.YtfmljboogkhobaaGreatDoorZSep
namespace Go.Proofs.YtfmljboogkhobaaGreatDoor
open Go Go.RowKit TxtP

/-- a variable of the library's holds some number -/
def MxL (w : World) : Prop := ∃ m : Int, w.cell? ⟨0, 0, none⟩ = some (.int .i64 m)
theorem MxL.below {w w' : World} (h : MxL w) (k : Below w.heap.size w w') : MxL w' := by
  obtain ⟨m, hm⟩ := h
  exact ⟨m, below_cell k hm⟩
/-- the pieces between the bytes c -/
def pcs (c : UInt8) (s : ByteArray) : List ByteArray := Lib.splitB ⟨#[c]⟩ 0 (Lib.countB s ⟨#[c]⟩) s
theorem pcs_data (c : UInt8) (s : ByteArray) : (pcs c s).map (·.data.toList) = spl c s.data.toList := splitB_spl c s
theorem pcs_len (c : UInt8) (s : ByteArray) : (pcs c s).length = Lib.countB s ⟨#[c]⟩ + 1 := Lib.splitB_all _ (by show 1 ≤ 1; omega) 0 _ s rfl
theorem pcs_le (c : UInt8) (s : ByteArray) : (pcs c s).length ≤ s.size + 1 := by
  rw [pcs_len]
  have := Lib.countB_le ⟨#[c]⟩ (by show 1 ≤ 1; omega) s.size s (Nat.le_refl _)
  omega
theorem spl_le (c : UInt8) : ∀ l, ∀ p ∈ spl c l, p.length ≤ l.length
  | [], p, hp => by rw [spl_nil] at hp; simp at hp; subst hp; simp
  | b :: r, p, hp => by
    have ih := spl_le c r
    by_cases h : b = c
    · subst h
      rw [spl_eq, List.mem_cons] at hp
      rcases hp with rfl | hp
      · simp
      · have := ih p hp; simp; omega
    · obtain ⟨x, y, e⟩ := spl_some c r
      rw [spl_ne h r x y e, List.mem_cons] at hp
      rw [e] at ih
      rcases hp with rfl | hp
      · have := ih x (by simp); simp; omega
      · have := ih p (by simp [hp]); simp; omega
theorem pcs_size {c : UInt8} {s x : ByteArray} (h : x ∈ pcs c s) : x.size ≤ s.size := by
  have h2 : x.data.toList ∈ spl c s.data.toList := by
    rw [← pcs_data]
    exact List.mem_map_of_mem h
  have := spl_le c _ _ h2
  simpa using this
def strCs (l : List ByteArray) : Array Value := (l.map Value.string).toArray
theorem strCs_size (l : List ByteArray) : (strCs l).size = l.length := by simp [strCs]
theorem strCs_at {l : List ByteArray} {k : Nat} (h : k < l.length) : (strCs l)[k]? = some (.string l[k]) := by simp [strCs, h]
/-- what Split leaves -/
def SplR (l : List ByteArray) (w : World) (e : Ending) (w' : World) : Prop :=
  e = .returned (.slice (some ⟨w.heap.size, 0, none⟩) l.length l.length) ∧ Below w.heap.size w w' ∧ Blk w' w.heap.size 9 (strCs l)
theorem split_calls (s : ByteArray) (c : UInt8) (w : World) (hs : s.size < 4294967281) (hx : MxL w) :
    Calls Tryz.prog 139 #[.string s, .string ⟨#[c]⟩] w (SplR (pcs c s) w) := by
  obtain ⟨m, hm⟩ := hx
  refine (Tryz.strings_Split s ⟨#[c]⟩ m w hs hm (by show 1 ≤ 1; omega)).mono ?_
  rintro e w1 ⟨rfl, rfl⟩
  refine ⟨by rw [pcs_len], (Below.refl _ _).alloc (Nat.le_refl _) _, Blk.new _ _ _⟩
theorem len_bool {α : Type} (l : List α) (n : Nat) : (l.length : Int) = n ↔ l.length = n := by omega

/-- is a line cut into so many words, none of them empty? -/
def wrdB (s : ByteArray) (many : Nat) : Bool := decide ((pcs 32 s).length = many) && (pcs 32 s).all (fun x => !x.data.toList.isEmpty)
def WrdR (s : ByteArray) (many : Nat) (w : World) (e : Ending) (w' : World) : Prop :=
  Below w.heap.size w w' ∧ (wrdB s many = true → e = .returned (.tuple #[.slice (some ⟨w.heap.size, 0, none⟩) many many, .bool true]) ∧ Blk w' w.heap.size 9 (strCs (pcs 32 s))) ∧
    (wrdB s many = false → e = .returned (.tuple #[.slice none 0 0, .bool false]))
theorem WrdR.no {s : ByteArray} {many : Nat} {w w' : World} (hb : Below w.heap.size w w') (h : wrdB s many = false) : WrdR s many w (.returned (.tuple #[.slice none 0 0, .bool false])) w' :=
  ⟨hb, fun h2 => by (rw [h] at h2; cases h2), fun _ => rfl⟩
theorem wrd_empty {s x : ByteArray} {many : Nat} (h : x ∈ pcs 32 s) (h2 : x.data.toList = []) : wrdB s many = false := by
  unfold wrdB
  rw [Bool.and_eq_false_iff]
  right
  rw [List.all_eq_false]
  exact ⟨x, h, by rw [h2]; decide⟩
theorem nil_data {x : ByteArray} (h : x.size = 0) : x.data.toList = [] := List.eq_nil_of_length_eq_zero (by simpa using h)
/-- the reference's words: the pieces, and whether none is empty -/
def wrdQ (s : ByteArray) : Bool := (pcs 32 s).all (fun x => !x.data.toList.isEmpty)
def WrdQ (s : ByteArray) (w : World) (e : Ending) (w' : World) : Prop :=
  e = .returned (.tuple #[.slice (some ⟨w.heap.size, 0, none⟩) (pcs 32 s).length (pcs 32 s).length, .bool (wrdQ s)]) ∧ Below w.heap.size w w' ∧ Blk w' w.heap.size 9 (strCs (pcs 32 s))
theorem wrd_split (s : ByteArray) (many : Nat) : wrdB s many = (decide ((pcs 32 s).length = many) && wrdQ s) := rfl
theorem contains_empty (l : List ByteArray) : (!Lib.containsS l ⟨#[]⟩) = l.all (fun x => !x.data.toList.isEmpty) := by
  cases h : l.all (fun x => !x.data.toList.isEmpty) with
  | true =>
    rw [List.all_eq_true] at h
    cases hc : Lib.containsS l ⟨#[]⟩ with
    | false => rfl
    | true =>
      have := h _ ((Lib.containsS_iff l _).1 hc)
      simp at this
  | false =>
    rw [List.all_eq_false] at h
    obtain ⟨x, hx, hn⟩ := h
    have he : x = ⟨#[]⟩ := by
      cases x with
      | mk d => simp at hn; simp [hn]
    rw [he] at hx
    rw [(Lib.containsS_iff l _).2 hx]; rfl
/-- the lines of a string, as base.Lines cuts them -/
def lnsP (s : ByteArray) : List ByteArray := if s.size = 0 then [] else pcs 10 ⟨(Lib.trimSuffix s.data.toList [10]).toArray⟩
def lneP (s : ByteArray) : Bool := decide (s.size = 0) || Lib.hasSuffix s.data.toList [10]
def LnsR (s : ByteArray) (w : World) (e : Ending) (w' : World) : Prop :=
  Below w.heap.size w w' ∧ ((lnsP s = [] ∧ e = .returned (.tuple #[.slice none 0 0, .bool (lneP s)])) ∨
    (e = .returned (.tuple #[.slice (some ⟨w.heap.size, 0, none⟩) (lnsP s).length (lnsP s).length, .bool (lneP s)]) ∧ Blk w' w.heap.size 9 (strCs (lnsP s))))
theorem ba_size (l : List UInt8) : (⟨l.toArray⟩ : ByteArray).size = l.length := by
  show l.toArray.size = l.length
  simp
theorem trimS_size (l p : List UInt8) : (Lib.trimSuffix l p).length ≤ l.length := by
  unfold Lib.trimSuffix
  split
  · rw [List.length_take]; omega
  · exact Nat.le_refl _
end Go.Proofs.YtfmljboogkhobaaGreatDoor

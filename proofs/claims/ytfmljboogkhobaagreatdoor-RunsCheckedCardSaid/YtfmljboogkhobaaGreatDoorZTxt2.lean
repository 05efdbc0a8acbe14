/-
  Words and lines by contracts: strings.Split at one byte, base.Words and splitref2.Words, base.Lines.
-/
import Derived.Test.YtfmljboogkhobaaGreatDoorZTxt1
import Derived.Test.YtfmljboogkhobaaGreatDoorZSep
namespace Go.Proofs.YtfmljboogkhobaaGreatDoor
open Go Go.RowKit TxtP

/-- a variable of the library's holds some number -/
def MxL (w : World) : Prop := ∃ m : Int, w.cell? ⟨0, 0, none⟩ = some (.int .i64 m)
theorem MxL.below {w w' : World} (h : MxL w) (k : Below w.heap.size w w') : MxL w' := by
  obtain ⟨m, hm⟩ := h
  exact ⟨m, below_cell k hm⟩
/-- the pieces between the bytes c -/
def pcs (c : UInt8) (s : ByteArray) : List ByteArray := Lib.splitB ⟨#[c]⟩ 0 (Lib.countB s ⟨#[c]⟩) s
theorem pcs_data (c : UInt8) (s : ByteArray) : (pcs c s).map (·.data.toList) = spl c s.data.toList := splitB_spl c s
theorem pcs_len (c : UInt8) (s : ByteArray) : (pcs c s).length = Lib.countB s ⟨#[c]⟩ + 1 := Lib.splitB_all _ (by show 1 ≤ 1; omega) 0 _ s rfl
theorem pcs_le (c : UInt8) (s : ByteArray) : (pcs c s).length ≤ s.size + 1 := by
  rw [pcs_len]
  have := Lib.countB_le ⟨#[c]⟩ (by show 1 ≤ 1; omega) s.size s (Nat.le_refl _)
  omega
theorem spl_le (c : UInt8) : ∀ l, ∀ p ∈ spl c l, p.length ≤ l.length
  | [], p, hp => by rw [spl_nil] at hp; simp at hp; subst hp; simp
  | b :: r, p, hp => by
    have ih := spl_le c r
    by_cases h : b = c
    · subst h
      rw [spl_eq, List.mem_cons] at hp
      rcases hp with rfl | hp
      · simp
      · have := ih p hp; simp; omega
    · obtain ⟨x, y, e⟩ := spl_some c r
      rw [spl_ne h r x y e, List.mem_cons] at hp
      rw [e] at ih
      rcases hp with rfl | hp
      · have := ih x (by simp); simp; omega
      · have := ih p (by simp [hp]); simp; omega
theorem pcs_size {c : UInt8} {s x : ByteArray} (h : x ∈ pcs c s) : x.size ≤ s.size := by
  have h2 : x.data.toList ∈ spl c s.data.toList := by
    rw [← pcs_data]
    exact List.mem_map_of_mem h
  have := spl_le c _ _ h2
  simpa using this
def strCs (l : List ByteArray) : Array Value := (l.map Value.string).toArray
theorem strCs_size (l : List ByteArray) : (strCs l).size = l.length := by simp [strCs]
theorem strCs_at {l : List ByteArray} {k : Nat} (h : k < l.length) : (strCs l)[k]? = some (.string l[k]) := by simp [strCs, h]
/-- what Split leaves -/
def SplR (l : List ByteArray) (w : World) (e : Ending) (w' : World) : Prop :=
  e = .returned (.slice (some ⟨w.heap.size, 0, none⟩) l.length l.length) ∧ Below w.heap.size w w' ∧ Blk w' w.heap.size 9 (strCs l)
theorem split_calls (s : ByteArray) (c : UInt8) (w : World) (hs : s.size < 4294967281) (hx : MxL w) :
    Calls Tryz.prog 139 #[.string s, .string ⟨#[c]⟩] w (SplR (pcs c s) w) := by
  obtain ⟨m, hm⟩ := hx
  refine (Tryz.strings_Split s ⟨#[c]⟩ m w hs hm (by show 1 ≤ 1; omega)).mono ?_
  rintro e w1 ⟨rfl, rfl⟩
  refine ⟨by rw [pcs_len], (Below.refl _ _).alloc (Nat.le_refl _) _, Blk.new _ _ _⟩
theorem len_bool {α : Type} (l : List α) (n : Nat) : (l.length : Int) = n ↔ l.length = n := by omega

/-- is a line cut into so many words, none of them empty? -/
def wrdB (s : ByteArray) (many : Nat) : Bool := decide ((pcs 32 s).length = many) && (pcs 32 s).all (fun x => !x.data.toList.isEmpty)
def WrdR (s : ByteArray) (many : Nat) (w : World) (e : Ending) (w' : World) : Prop :=
  Below w.heap.size w w' ∧ (wrdB s many = true → e = .returned (.tuple #[.slice (some ⟨w.heap.size, 0, none⟩) many many, .bool true]) ∧ Blk w' w.heap.size 9 (strCs (pcs 32 s))) ∧
    (wrdB s many = false → e = .returned (.tuple #[.slice none 0 0, .bool false]))
theorem WrdR.no {s : ByteArray} {many : Nat} {w w' : World} (hb : Below w.heap.size w w') (h : wrdB s many = false) : WrdR s many w (.returned (.tuple #[.slice none 0 0, .bool false])) w' :=
  ⟨hb, fun h2 => by (rw [h] at h2; cases h2), fun _ => rfl⟩
theorem wrd_empty {s x : ByteArray} {many : Nat} (h : x ∈ pcs 32 s) (h2 : x.data.toList = []) : wrdB s many = false := by
  unfold wrdB
  rw [Bool.and_eq_false_iff]
  right
  rw [List.all_eq_false]
  exact ⟨x, h, by rw [h2]; decide⟩
theorem nil_data {x : ByteArray} (h : x.size = 0) : x.data.toList = [] := List.eq_nil_of_length_eq_zero (by simpa using h)
/-- the reference's words: the pieces, and whether none is empty -/
def wrdQ (s : ByteArray) : Bool := (pcs 32 s).all (fun x => !x.data.toList.isEmpty)
def WrdQ (s : ByteArray) (w : World) (e : Ending) (w' : World) : Prop :=
  e = .returned (.tuple #[.slice (some ⟨w.heap.size, 0, none⟩) (pcs 32 s).length (pcs 32 s).length, .bool (wrdQ s)]) ∧ Below w.heap.size w w' ∧ Blk w' w.heap.size 9 (strCs (pcs 32 s))
theorem wrd_split (s : ByteArray) (many : Nat) : wrdB s many = (decide ((pcs 32 s).length = many) && wrdQ s) := rfl
theorem contains_empty (l : List ByteArray) : (!Lib.containsS l ⟨#[]⟩) = l.all (fun x => !x.data.toList.isEmpty) := by
  cases h : l.all (fun x => !x.data.toList.isEmpty) with
  | true =>
    rw [List.all_eq_true] at h
    cases hc : Lib.containsS l ⟨#[]⟩ with
    | false => rfl
    | true =>
      have := h _ ((Lib.containsS_iff l _).1 hc)
      simp at this
  | false =>
    rw [List.all_eq_false] at h
    obtain ⟨x, hx, hn⟩ := h
    have he : x = ⟨#[]⟩ := by
      cases x with
      | mk d => simp at hn; simp [hn]
    rw [he] at hx
    rw [(Lib.containsS_iff l _).2 hx]; rfl
/-- the lines of a string, as base.Lines cuts them -/
def lnsP (s : ByteArray) : List ByteArray := if s.size = 0 then [] else pcs 10 ⟨(Lib.trimSuffix s.data.toList [10]).toArray⟩
def lneP (s : ByteArray) : Bool := decide (s.size = 0) || Lib.hasSuffix s.data.toList [10]
def LnsR (s : ByteArray) (w : World) (e : Ending) (w' : World) : Prop :=
  Below w.heap.size w w' ∧ ((lnsP s = [] ∧ e = .returned (.tuple #[.slice none 0 0, .bool (lneP s)])) ∨
    (e = .returned (.tuple #[.slice (some ⟨w.heap.size, 0, none⟩) (lnsP s).length (lnsP s).length, .bool (lneP s)]) ∧ Blk w' w.heap.size 9 (strCs (lnsP s))))
theorem ba_size (l : List UInt8) : (⟨l.toArray⟩ : ByteArray).size = l.length := by
  show l.toArray.size = l.length
  simp
theorem trimS_size (l p : List UInt8) : (Lib.trimSuffix l p).length ≤ l.length := by
  unfold Lib.trimSuffix
  split
  · rw [List.length_take]; omega
  · exact Nat.le_refl _
end Go.Proofs.YtfmljboogkhobaaGreatDoor
/-
  What a reading of lines holds of a world: the closure's own resources, and others; the lines as base.Lines cuts them are those that a line feed ends.
-/
namespace Go.Proofs.YtfmljboogkhobaaGreatDoor
open Go Go.RowKit TxtP

/-- the closure's resources say what was read; others lie apart -/
def StP (w0 : World) (Q : List (List UInt8) → List Rsc → Prop) (done : List (List UInt8)) (W : World) (L : List Rsc) : Prop := ∃ rs, Q done rs ∧ Sq w0 W (rs ++ L)
section
variable {w0 W W' : World} {Q : List (List UInt8) → List Rsc → Prop} {done : List (List UInt8)} {L : List Rsc}
theorem Sq.perm {w W : World} {l l' : List Rsc} (h : Sq w W l) (hp : l.Perm l') : Sq w W l' := ⟨h.below, h.hp.perm hp⟩
theorem StP.below (h : StP w0 Q done W L) : Below w0.heap.size w0 W := by obtain ⟨rs, _, hS⟩ := h; exact hS.below
theorem StP.callB (h : StP w0 Q done W L) (k : Below W.heap.size W W') : StP w0 Q done W' L := by
  obtain ⟨rs, hq, hS⟩ := h
  exact ⟨rs, hq, hS.callB k⟩
theorem StP.blk (h : StP w0 Q done W L) {g : Nat} {t : TypeId} {cs : Array Value} (k : Below W.heap.size W W') (hb : Blk W' g t cs) (hg : W.heap.size ≤ g) : StP w0 Q done W' (rBlk g t cs :: L) := by
  obtain ⟨rs, hq, hS⟩ := h
  refine ⟨rs, hq, (hS.new_ (r := rBlk g t cs) k hb (rBlk_ok _ _ _) (fun g' hg' => ?_)).perm ?_⟩
  · have : g' = g := hg'
    subst this
    exact ⟨hg, Blk.lt hb⟩
  · exact List.perm_middle.symm
theorem StP.head {g : Nat} {t : TypeId} {cs : Array Value} (h : StP w0 Q done W (rBlk g t cs :: L)) : Blk W g t cs := by
  obtain ⟨rs, hq, hS⟩ := h
  exact hS.hp.hold (rBlk g t cs) (by simp)
theorem StP.tail {r : Rsc} (h : StP w0 Q done W (r :: L)) : StP w0 Q done W L := by
  obtain ⟨rs, hq, hS⟩ := h
  exact ⟨rs, hq, (hS.perm List.perm_middle).tail⟩
end
/-- a closure that reads a line: it answers f, and where it takes the line the state goes on -/
def CloR (w0 : World) (Q : List (List UInt8) → List Rsc → Prop) (F : FuncId) (cap : Value) (f : List UInt8 → Bool) (M : Nat) : Prop :=
  ∀ (W : World) (done : List (List UInt8)) (s : ByteArray) (L : List Rsc), StP w0 Q done W L → s.size ≤ M → done.length ≤ M →
    Calls Tryz.prog F #[.string s, cap] W (fun e W' => e = .returned (.bool (f s.data.toList)) ∧ (f s.data.toList = true → StP w0 Q (done ++ [s.data.toList]) W' L) ∧ Below w0.heap.size w0 W')
/-- what a reading of all lines answers -/
def EachR (w0 : World) (Q : List (List UInt8) → List Rsc → Prop) (f : List UInt8 → Bool) (l : List UInt8) (L : List Rsc) (e : Ending) (W' : World) : Prop :=
  e = .returned (.tuple #[.int .i64 (eachI f l), .bool (eachB f l)]) ∧ (eachB f l = true → StP w0 Q (lnM l) W' L) ∧ Below w0.heap.size w0 W'
theorem EachR.at_ {w0 W' : World} {Q : List (List UInt8) → List Rsc → Prop} {f : List UInt8 → Bool} {l : List UInt8} {L : List Rsc} (k : Nat) (hk : k < (lnM l).length) (ha : ∀ j (h : j < (lnM l).length), j < k → f (lnM l)[j] = true) (hn : f (lnM l)[k] = false)
    (hb : Below w0.heap.size w0 W') : EachR w0 Q f l L (.returned (.tuple #[.int .i64 k, .bool false])) W' := by
  have h1 := okN_at hk (fun i hi h => ha i h hi) hn
  have e1 : eachI f l = k := by unfold eachI; rw [h1, if_pos hk]
  have e2 : eachB f l = false := by unfold eachB; rw [h1, decide_eq_false (by omega), Bool.false_and]
  refine ⟨by rw [e1, e2], fun h => ?_, hb⟩
  rw [e2] at h; cases h
theorem EachR.open_ {w0 W' : World} {Q : List (List UInt8) → List Rsc → Prop} {f : List UInt8 → Bool} {l : List UInt8} {L : List Rsc} (he : lnE l = false) (ha : ∀ j (h : j < (lnM l).length), f (lnM l)[j] = true)
    (hb : Below w0.heap.size w0 W') : EachR w0 Q f l L (.returned (.tuple #[.int .i64 (lnM l).length, .bool false])) W' := by
  have h1 := okN_all ha
  have e1 : eachI f l = (lnM l).length := by unfold eachI; rw [h1, if_neg (Nat.lt_irrefl _), he]; rfl
  have e2 : eachB f l = false := by unfold eachB; rw [he, Bool.and_false]
  refine ⟨by rw [e1, e2], fun h => ?_, hb⟩
  rw [e2] at h; cases h
theorem EachR.all_ {w0 W' : World} {Q : List (List UInt8) → List Rsc → Prop} {f : List UInt8 → Bool} {l : List UInt8} {L : List Rsc} (he : lnE l = true) (ha : ∀ j (h : j < (lnM l).length), f (lnM l)[j] = true)
    (hS : StP w0 Q (lnM l) W' L) : EachR w0 Q f l L (.returned (.tuple #[.int .i64 0, .bool true])) W' := by
  have h1 := okN_all ha
  have e1 : eachI f l = 0 := by unfold eachI; rw [h1, if_neg (Nat.lt_irrefl _), he]; rfl
  have e2 : eachB f l = true := by unfold eachB; rw [h1, decide_eq_true rfl, he]; rfl
  exact ⟨by rw [e1, e2]; rfl, fun _ => hS, hS.below⟩
theorem suffix_nl (l : List UInt8) : Lib.hasSuffix l [10] = true ↔ ∃ r, l = r ++ [10] := by
  unfold Lib.hasSuffix
  rw [List.isSuffixOf_iff_suffix]
  constructor
  · rintro ⟨r, h⟩; exact ⟨r, h.symm⟩
  · rintro ⟨r, h⟩; exact ⟨r, h.symm⟩
theorem trim_nl (r : List UInt8) : Lib.trimSuffix (r ++ [10]) [10] = r := by
  unfold Lib.trimSuffix
  rw [if_pos ((suffix_nl _).2 ⟨r, rfl⟩)]
  simp
theorem trim_no {l : List UInt8} (h : Lib.hasSuffix l [10] = false) : Lib.trimSuffix l [10] = l := by
  unfold Lib.trimSuffix
  rw [h]; rfl
/-- the lines that base.Lines cuts, ended or not -/
theorem lns_yes {s : ByteArray} (h : lneP s = true) : (lnsP s).map (·.data.toList) = lnM s.data.toList ∧ lnE s.data.toList = true := by
  unfold lnsP
  by_cases h0 : s.size = 0
  · rw [if_pos h0, nil_data h0]
    exact ⟨rfl, rfl⟩
  · unfold lneP at h
    rw [decide_eq_false h0, Bool.false_or] at h
    obtain ⟨r, hr⟩ := (suffix_nl _).1 h
    rw [if_neg h0, pcs_data, ba_list, hr, trim_nl]
    have := ln_ends r
    exact ⟨this.1.symm, this.2⟩
theorem lns_no {s : ByteArray} (h : lneP s = false) : ∃ z, (lnsP s).map (·.data.toList) = lnM s.data.toList ++ [z] ∧ lnE s.data.toList = false := by
  unfold lneP at h
  rw [Bool.or_eq_false_iff] at h
  have h0 : ¬ s.size = 0 := of_decide_eq_false h.1
  unfold lnsP
  rw [if_neg h0, pcs_data, ba_list, trim_no h.2]
  refine ln_open ?_ ?_
  · intro e
    have : s.data.toList.length = 0 := by rw [e]; rfl
    exact h0 (by simpa using this)
  · intro e
    have : Lib.hasSuffix s.data.toList [10] = true := by
      refine (suffix_nl _).2 ?_
      obtain ⟨r, hr⟩ := List.getLast?_eq_some_iff.1 e
      exact ⟨r, hr⟩
    rw [h.2] at this; cases this
theorem lns_nil {s : ByteArray} (h : lnsP s = []) : lneP s = true := by
  unfold lnsP at h
  by_cases h0 : s.size = 0
  · unfold lneP; rw [decide_eq_true h0, Bool.true_or]
  · rw [if_neg h0] at h
    have := pcs_len 10 ⟨(Lib.trimSuffix s.data.toList [10]).toArray⟩
    rw [h] at this; simp at this
theorem lns_size {s x : ByteArray} (h : x ∈ lnsP s) : x.size ≤ s.size := by
  unfold lnsP at h
  split at h
  · cases h
  · have h1 := pcs_size h
    rw [ba_size (Lib.trimSuffix s.data.toList [10])] at h1
    have h2 := trimS_size s.data.toList [10]
    have h3 : s.data.toList.length = s.size := by simp
    omega
theorem lns_count (s : ByteArray) : (lnsP s).length ≤ s.size + 1 := by
  unfold lnsP
  split
  · simp
  · have h1 := pcs_le 10 ⟨(Lib.trimSuffix s.data.toList [10]).toArray⟩
    rw [ba_size (Lib.trimSuffix s.data.toList [10])] at h1
    have h2 := trimS_size s.data.toList [10]
    have h3 : s.data.toList.length = s.size := by simp
    omega
end Go.Proofs.YtfmljboogkhobaaGreatDoor

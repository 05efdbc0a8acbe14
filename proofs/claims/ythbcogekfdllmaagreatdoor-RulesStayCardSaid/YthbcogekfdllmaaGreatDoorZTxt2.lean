/-
  Words and lines by contracts: strings.Split at one byte, base.Words and splitref2.Words, base.Lines.
-/
import Derived.Test.YthbcogekfdllmaaGreatDoorZClk
import Derived.Test.YthbcogekfdllmaaGreatDoorZSepX
namespace Go.Proofs.YthbcogekfdllmaaGreatDoor
open Go Go.RowKit TxtP

/-- a variable of the library's holds some number -/
def MxL (w : World) : Prop := ∃ m : Int, w.cell? ⟨0, 0, none⟩ = some (.int .i64 m)
theorem MxL.below {w w' : World} (h : MxL w) (k : Below w.heap.size w w') : MxL w' := by
  obtain ⟨m, hm⟩ := h
  exact ⟨m, below_cell k hm⟩
/-- the pieces between the bytes c -/
def pcs (c : UInt8) (s : ByteArray) : List ByteArray := Lib.splitB ⟨#[c]⟩ 0 (Lib.countB s ⟨#[c]⟩) s
theorem pcs_data (c : UInt8) (s : ByteArray) : (pcs c s).map (·.data.toList) = spl c s.data.toList := splitB_spl c s
theorem pcs_len (c : UInt8) (s : ByteArray) : (pcs c s).length = Lib.countB s ⟨#[c]⟩ + 1 := Lib.splitB_all _ (by show 1 ≤ 1; omega) 0 _ s rfl
theorem pcs_le (c : UInt8) (s : ByteArray) : (pcs c s).length ≤ s.size + 1 := by
  rw [pcs_len]
  have := Lib.countB_le ⟨#[c]⟩ (by show 1 ≤ 1; omega) s.size s (Nat.le_refl _)
  omega
theorem spl_le (c : UInt8) : ∀ l, ∀ p ∈ spl c l, p.length ≤ l.length
  | [], p, hp => by rw [spl_nil] at hp; simp at hp; subst hp; simp
  | b :: r, p, hp => by
    have ih := spl_le c r
    by_cases h : b = c
    · subst h
      rw [spl_eq, List.mem_cons] at hp
      rcases hp with rfl | hp
      · simp
      · have := ih p hp; simp; omega
    · obtain ⟨x, y, e⟩ := spl_some c r
      rw [spl_ne h r x y e, List.mem_cons] at hp
      rw [e] at ih
      rcases hp with rfl | hp
      · have := ih x (by simp); simp; omega
      · have := ih p (by simp [hp]); simp; omega
theorem pcs_size {c : UInt8} {s x : ByteArray} (h : x ∈ pcs c s) : x.size ≤ s.size := by
  have h2 : x.data.toList ∈ spl c s.data.toList := by
    rw [← pcs_data]
    exact List.mem_map_of_mem h
  have := spl_le c _ _ h2
  simpa using this
def strCs (l : List ByteArray) : Array Value := (l.map Value.string).toArray
theorem strCs_at {l : List ByteArray} {k : Nat} (h : k < l.length) : (strCs l)[k]? = some (.string l[k]) := by simp [strCs, h]
/-- what Split leaves -/
def SplR (l : List ByteArray) (w : World) (e : Ending) (w' : World) : Prop :=
  e = .returned (.slice (some ⟨w.heap.size, 0, none⟩) l.length l.length) ∧ Below w.heap.size w w' ∧ Blk w' w.heap.size 9 (strCs l)
theorem split_calls (s : ByteArray) (c : UInt8) (w : World) (hs : s.size < 4294967281) (hx : MxL w) :
    Calls Tryz.prog 203 #[.string s, .string ⟨#[c]⟩] w (SplR (pcs c s) w) := by
  obtain ⟨m, hm⟩ := hx
  refine (Tryz.strings_Split s ⟨#[c]⟩ m w hs hm (by show 1 ≤ 1; omega)).mono ?_
  rintro e w1 ⟨rfl, rfl⟩
  refine ⟨by rw [pcs_len], (Below.refl _ _).alloc (Nat.le_refl _) _, Blk.new _ _ _⟩
/-- is a line cut into so many words, none of them empty? -/
def wrdB (s : ByteArray) (many : Nat) : Bool := decide ((pcs 32 s).length = many) && (pcs 32 s).all (fun x => !x.data.toList.isEmpty)
def WrdR (s : ByteArray) (many : Nat) (w : World) (e : Ending) (w' : World) : Prop :=
  Below w.heap.size w w' ∧ (wrdB s many = true → e = .returned (.tuple #[.slice (some ⟨w.heap.size, 0, none⟩) many many, .bool true]) ∧ Blk w' w.heap.size 9 (strCs (pcs 32 s))) ∧
    (wrdB s many = false → e = .returned (.tuple #[.slice none 0 0, .bool false]))
theorem WrdR.no {s : ByteArray} {many : Nat} {w w' : World} (hb : Below w.heap.size w w') (h : wrdB s many = false) : WrdR s many w (.returned (.tuple #[.slice none 0 0, .bool false])) w' :=
  ⟨hb, fun h2 => by (rw [h] at h2; cases h2), fun _ => rfl⟩
theorem wrd_empty {s x : ByteArray} {many : Nat} (h : x ∈ pcs 32 s) (h2 : x.data.toList = []) : wrdB s many = false := by
  unfold wrdB
  rw [Bool.and_eq_false_iff]
  right
  rw [List.all_eq_false]
  exact ⟨x, h, by rw [h2]; decide⟩
theorem nil_data {x : ByteArray} (h : x.size = 0) : x.data.toList = [] := List.eq_nil_of_length_eq_zero (by simpa using h)
set_option maxRecDepth 100000 in
set_option maxHeartbeats 1000000 in
theorem words_calls (s : ByteArray) (many : Nat) (w : World) (hs : s.size < 4294967281) (hx : MxL w) :
    Calls Tryz.prog 156 #[.string s, .int .i64 many] w (WrdR s many w) := by
  have HSP := Lib.hid (split_calls s 32 w hs hx)
  have hle := pcs_le 32 s
  by_cases hlen : (pcs 32 s).length = many
  · obtain ⟨L, hL⟩ : ∃ L, L = pcs 32 s := ⟨_, rfl⟩
    have HE : Hid (∀ k (h : k < L.length), L[k].size = 0 → wrdB s many = false) := Lib.hid (fun k h h2 => wrd_empty (x := L[k]) (by rw [← hL]; exact List.getElem_mem h) (nil_data h2))
    have HA : Hid ((∀ k (h : k < L.length), L[k].size ≠ 0) → wrdB s many = true) := by
      refine Lib.hid (fun h => ?_)
      unfold wrdB
      rw [← hL] at hlen ⊢
      rw [decide_eq_true hlen, Bool.true_and, List.all_eq_true]
      intro x hx2
      obtain ⟨k, hk, rfl⟩ := List.getElem_of_mem hx2
      have := h k hk
      cases hd : L[k].data.toList with
      | nil => exact absurd (by have e : L[k].data.toList.length = 0 := by rw [hd]; rfl
                                simpa using e) this
      | cons a t => rfl
    rw [← hL] at HSP hle hlen
    have HW : Hid (∀ w', Below w.heap.size w w' → Blk w' w.heap.size 9 (strCs L) → wrdB s many = true → WrdR s many w (.returned (.tuple #[.slice (some ⟨w.heap.size, 0, none⟩) many many, .bool true])) w') :=
      Lib.hid (fun w' h1 h2 h3 => ⟨h1, fun _ => ⟨rfl, by rw [← hL]; exact h2⟩, fun h => by (rw [h3] at h; cases h)⟩)
    clear hL hx
    subst hlen
    go_enter Tryz.func156, Tryz.ntmps156
    go_wp2_with (first | (go_at_call 203; refine HSP.out.mono ?_; rintro e w1 ⟨rfl, hb1, hk1⟩))
    go_loop [17] (fun i => ∃ k : Nat, k ≤ L.length ∧ i = .int .i64 k ∧ Hid (∀ j (h : j < L.length), j < k → L[j].size ≠ 0)) (fun i => L.length - (intOf i).toNat)
    case atStart => exact ⟨0, Nat.zero_le _, rfl, Lib.hid (fun j h hj => by omega)⟩
    case round =>
      obtain ⟨k, hk, rfl, HO⟩ := hrel
      by_cases hlt : k < L.length
      · have hc := (hk1.cell k).trans (strCs_at hlt)
        have he := HE.out k hlt
        obtain ⟨x, hxk⟩ : ∃ x, x = L[k] := ⟨_, rfl⟩
        rw [← hxk] at hc he
        by_cases h0 : x.size = 0
        · have HR := Lib.hid (WrdR.no hb1 (he h0))
          have hx0 : x.toList = [] := by rw [Lib.toList_data]; exact nil_data h0
          clear he h0 hxk
          go_wp2
          go_ret2
          exact HR.out
        · have he1 := isEmpty_f (s := x) (by omega)
          have he2 : (x.toList == []) = false := by rw [← he1]; cases x.toList <;> rfl
          have HO2 : Hid (∀ j (h : j < L.length), j < k + 1 → L[j].size ≠ 0) := by
            refine Lib.hid (fun j h hj => ?_)
            by_cases hjk : j = k
            · subst hjk; rw [← hxk]; exact h0
            · exact HO.out j h (by omega)
          clear he h0 hxk HO
          go_wp2
          go_round
          case rel => exact ⟨k + 1, by omega, by go_num, HO2⟩
          case measure => simp [intOf]; omega
      · have HR := Lib.hid (HW.out w1 hb1 hk1 (HA.out (fun j h => HO.out j h (by omega))))
        go_wp2
        go_ret2
        exact HR.out
  · have HR : Hid (∀ w', Below w.heap.size w w' → WrdR s many w (.returned (.tuple #[.slice none 0 0, .bool false])) w') := by
      refine Lib.hid (fun w' h => WrdR.no h ?_)
      unfold wrdB
      rw [decide_eq_false hlen, Bool.false_and]
    obtain ⟨n, hn⟩ : ∃ n, n = (pcs 32 s).length := ⟨_, rfl⟩
    have hsp : SplR (pcs 32 s) w = fun e w' => e = .returned (.slice (some ⟨w.heap.size, 0, none⟩) n n) ∧ Below w.heap.size w w' ∧ Blk w' w.heap.size 9 (strCs (pcs 32 s)) := by rw [hn]; rfl
    rw [hsp] at HSP
    rw [← hn] at hle hlen
    clear hn hsp
    go_enter Tryz.func156, Tryz.ntmps156
    go_wp2_with (first | (go_at_call 203; refine HSP.out.mono ?_; rintro e w1 ⟨rfl, hb1, hk1⟩))
    go_ret2
    exact HR.out _ hb1

/-- the reference's words: the pieces, and whether none is empty -/
def wrdQ (s : ByteArray) : Bool := (pcs 32 s).all (fun x => !x.data.toList.isEmpty)
theorem wrd_split (s : ByteArray) (many : Nat) : wrdB s many = (decide ((pcs 32 s).length = many) && wrdQ s) := rfl
/-- the lines of a string, as base.Lines cuts them -/
def lnsP (s : ByteArray) : List ByteArray := if s.size = 0 then [] else pcs 10 ⟨(Lib.trimSuffix s.data.toList [10]).toArray⟩
def lneP (s : ByteArray) : Bool := decide (s.size = 0) || Lib.hasSuffix s.data.toList [10]
def LnsR (s : ByteArray) (w : World) (e : Ending) (w' : World) : Prop :=
  Below w.heap.size w w' ∧ ((lnsP s = [] ∧ e = .returned (.tuple #[.slice none 0 0, .bool (lneP s)])) ∨
    (e = .returned (.tuple #[.slice (some ⟨w.heap.size, 0, none⟩) (lnsP s).length (lnsP s).length, .bool (lneP s)]) ∧ Blk w' w.heap.size 9 (strCs (lnsP s))))
theorem ba_size (l : List UInt8) : (⟨l.toArray⟩ : ByteArray).size = l.length := by
  show l.toArray.size = l.length
  simp
theorem trimS_size (l p : List UInt8) : (Lib.trimSuffix l p).length ≤ l.length := by
  unfold Lib.trimSuffix
  split
  · rw [List.length_take]; omega
  · exact Nat.le_refl _
set_option maxRecDepth 100000 in
set_option maxHeartbeats 1000000 in
theorem lines_calls (s : ByteArray) (w : World) (hs : s.size < 4294967281) (hx : MxL w) :
    Calls Tryz.prog 155 #[.string s] w (LnsR s w) := by
  by_cases h0 : s.size = 0
  · have he : s.toList = [] := by rw [Lib.toList_data]; exact nil_data h0
    have HR : Hid (LnsR s w (.returned (.tuple #[.slice none 0 0, .bool true])) w) := by
      refine Lib.hid ⟨Below.refl _ _, Or.inl ⟨by unfold lnsP; rw [if_pos h0], ?_⟩⟩
      unfold lneP
      rw [decide_eq_true h0, Bool.true_or]
    clear h0
    go_enter Tryz.func155, Tryz.ntmps155
    go_wp2
    go_ret2
    exact HR.out
  · have he1 := isEmpty_f (s := s) (by omega)
    have he2 : (s.toList == []) = false := by rw [← he1]; cases s.toList <;> rfl
    have HC := Lib.hid ((Tryz.strings_CutSuffix s ⟨#[10]⟩ w (by omega)).mono (fun e w' h => (⟨h.1, h.2.symm⟩ : _ ∧ w = w')))
    have e10 : (⟨#[10]⟩ : ByteArray).data.toList = [10] := rfl
    rw [e10] at HC
    have hts := trimS_size s.data.toList [10]
    obtain ⟨t, ht⟩ : ∃ t : ByteArray, t = ⟨(Lib.trimSuffix s.data.toList [10]).toArray⟩ := ⟨_, rfl⟩
    have htz : t.size ≤ s.size := by rw [ht, ba_size]; simpa using hts
    obtain ⟨B, hB⟩ : ∃ B, B = Lib.hasSuffix s.data.toList [10] := ⟨_, rfl⟩
    rw [← ht, ← hB] at HC
    have HSP := Lib.hid (split_calls t 10 w (by omega) hx)
    have HR : Hid (∀ w', Below w.heap.size w w' → Blk w' w.heap.size 9 (strCs (pcs 10 t)) → LnsR s w (.returned (.tuple #[.slice (some ⟨w.heap.size, 0, none⟩) (pcs 10 t).length (pcs 10 t).length, .bool B])) w') := by
      refine Lib.hid (fun w' h1 h2 => ⟨h1, Or.inr ?_⟩)
      have e1 : lnsP s = pcs 10 t := by unfold lnsP; rw [if_neg h0, ht]
      have e2 : lneP s = B := by unfold lneP; rw [decide_eq_false h0, Bool.false_or, hB]
      rw [e1, e2]
      exact ⟨rfl, h2⟩
    obtain ⟨L, hL⟩ : ∃ L, L = pcs 10 t := ⟨_, rfl⟩
    rw [← hL] at HSP HR
    clear hL hx h0 hts htz ht hB e10
    go_enter Tryz.func155, Tryz.ntmps155
    go_wp2_with (first | (go_at_call 202; refine HC.out.mono ?_; rintro e w1 ⟨rfl, rfl⟩) | (go_at_call 203; refine HSP.out.mono ?_; rintro e w1 ⟨rfl, hb1, hk1⟩))
    go_ret2
    exact HR.out _ hb1 hk1
end Go.Proofs.YthbcogekfdllmaaGreatDoor
/-
  What a reading of lines holds of a world: the closure's own resources, and others; the lines as base.Lines cuts them are those that a line feed ends.
-/
namespace Go.Proofs.YthbcogekfdllmaaGreatDoor
open Go Go.RowKit TxtP

/-- the closure's resources say what was read; others lie apart -/
def StP (w0 : World) (Q : List (List UInt8) → List Rsc → Prop) (done : List (List UInt8)) (W : World) (L : List Rsc) : Prop := ∃ rs, Q done rs ∧ Sq w0 W (rs ++ L)
section
variable {w0 W W' : World} {Q : List (List UInt8) → List Rsc → Prop} {done : List (List UInt8)} {L : List Rsc}
theorem Sq.perm {w W : World} {l l' : List Rsc} (h : Sq w W l) (hp : l.Perm l') : Sq w W l' := ⟨h.below, h.hp.perm hp⟩
theorem StP.below (h : StP w0 Q done W L) : Below w0.heap.size w0 W := by obtain ⟨rs, _, hS⟩ := h; exact hS.below
theorem StP.callB (h : StP w0 Q done W L) (k : Below W.heap.size W W') : StP w0 Q done W' L := by
  obtain ⟨rs, hq, hS⟩ := h
  exact ⟨rs, hq, hS.callB k⟩
theorem StP.blk (h : StP w0 Q done W L) {g : Nat} {t : TypeId} {cs : Array Value} (k : Below W.heap.size W W') (hb : Blk W' g t cs) (hg : W.heap.size ≤ g) : StP w0 Q done W' (rBlk g t cs :: L) := by
  obtain ⟨rs, hq, hS⟩ := h
  refine ⟨rs, hq, (hS.new_ (r := rBlk g t cs) k hb (rBlk_ok _ _ _) (fun g' hg' => ?_)).perm ?_⟩
  · have : g' = g := hg'
    subst this
    exact ⟨hg, Blk.lt hb⟩
  · exact List.perm_middle.symm
theorem StP.head {g : Nat} {t : TypeId} {cs : Array Value} (h : StP w0 Q done W (rBlk g t cs :: L)) : Blk W g t cs := by
  obtain ⟨rs, hq, hS⟩ := h
  exact hS.hp.hold (rBlk g t cs) (by simp)
theorem StP.tail {r : Rsc} (h : StP w0 Q done W (r :: L)) : StP w0 Q done W L := by
  obtain ⟨rs, hq, hS⟩ := h
  exact ⟨rs, hq, (hS.perm List.perm_middle).tail⟩
end
/-- a closure that reads a line: it answers f, and where it takes the line the state goes on -/
def CloR (w0 : World) (Q : List (List UInt8) → List Rsc → Prop) (F : FuncId) (cap : Value) (f : List UInt8 → Bool) (M : Nat) : Prop :=
  ∀ (W : World) (done : List (List UInt8)) (s : ByteArray) (L : List Rsc), StP w0 Q done W L → s.size ≤ M → done.length ≤ M →
    Calls Tryz.prog F #[.string s, cap] W (fun e W' => e = .returned (.bool (f s.data.toList)) ∧ (f s.data.toList = true → StP w0 Q (done ++ [s.data.toList]) W' L) ∧ Below w0.heap.size w0 W')
/-- what a reading of all lines answers -/
def EachR (w0 : World) (Q : List (List UInt8) → List Rsc → Prop) (f : List UInt8 → Bool) (l : List UInt8) (L : List Rsc) (e : Ending) (W' : World) : Prop :=
  e = .returned (.tuple #[.int .i64 (eachI f l), .bool (eachB f l)]) ∧ (eachB f l = true → StP w0 Q (lnM l) W' L) ∧ Below w0.heap.size w0 W'
theorem EachR.at_ {w0 W' : World} {Q : List (List UInt8) → List Rsc → Prop} {f : List UInt8 → Bool} {l : List UInt8} {L : List Rsc} (k : Nat) (hk : k < (lnM l).length) (ha : ∀ j (h : j < (lnM l).length), j < k → f (lnM l)[j] = true) (hn : f (lnM l)[k] = false)
    (hb : Below w0.heap.size w0 W') : EachR w0 Q f l L (.returned (.tuple #[.int .i64 k, .bool false])) W' := by
  have h1 := okN_at hk (fun i hi h => ha i h hi) hn
  have e1 : eachI f l = k := by unfold eachI; rw [h1, if_pos hk]
  have e2 : eachB f l = false := by unfold eachB; rw [h1, decide_eq_false (by omega), Bool.false_and]
  refine ⟨by rw [e1, e2], fun h => ?_, hb⟩
  rw [e2] at h; cases h
theorem EachR.open_ {w0 W' : World} {Q : List (List UInt8) → List Rsc → Prop} {f : List UInt8 → Bool} {l : List UInt8} {L : List Rsc} (he : lnE l = false) (ha : ∀ j (h : j < (lnM l).length), f (lnM l)[j] = true)
    (hb : Below w0.heap.size w0 W') : EachR w0 Q f l L (.returned (.tuple #[.int .i64 (lnM l).length, .bool false])) W' := by
  have h1 := okN_all ha
  have e1 : eachI f l = (lnM l).length := by unfold eachI; rw [h1, if_neg (Nat.lt_irrefl _), he]; rfl
  have e2 : eachB f l = false := by unfold eachB; rw [he, Bool.and_false]
  refine ⟨by rw [e1, e2], fun h => ?_, hb⟩
  rw [e2] at h; cases h
theorem EachR.all_ {w0 W' : World} {Q : List (List UInt8) → List Rsc → Prop} {f : List UInt8 → Bool} {l : List UInt8} {L : List Rsc} (he : lnE l = true) (ha : ∀ j (h : j < (lnM l).length), f (lnM l)[j] = true)
    (hS : StP w0 Q (lnM l) W' L) : EachR w0 Q f l L (.returned (.tuple #[.int .i64 0, .bool true])) W' := by
  have h1 := okN_all ha
  have e1 : eachI f l = 0 := by unfold eachI; rw [h1, if_neg (Nat.lt_irrefl _), he]; rfl
  have e2 : eachB f l = true := by unfold eachB; rw [h1, decide_eq_true rfl, he]; rfl
  exact ⟨by rw [e1, e2]; rfl, fun _ => hS, hS.below⟩
theorem suffix_nl (l : List UInt8) : Lib.hasSuffix l [10] = true ↔ ∃ r, l = r ++ [10] := by
  unfold Lib.hasSuffix
  rw [List.isSuffixOf_iff_suffix]
  constructor
  · rintro ⟨r, h⟩; exact ⟨r, h.symm⟩
  · rintro ⟨r, h⟩; exact ⟨r, h.symm⟩
theorem trim_nl (r : List UInt8) : Lib.trimSuffix (r ++ [10]) [10] = r := by
  unfold Lib.trimSuffix
  rw [if_pos ((suffix_nl _).2 ⟨r, rfl⟩)]
  simp
theorem trim_no {l : List UInt8} (h : Lib.hasSuffix l [10] = false) : Lib.trimSuffix l [10] = l := by
  unfold Lib.trimSuffix
  rw [h]; rfl
/-- the lines that base.Lines cuts, ended or not -/
theorem lns_yes {s : ByteArray} (h : lneP s = true) : (lnsP s).map (·.data.toList) = lnM s.data.toList ∧ lnE s.data.toList = true := by
  unfold lnsP
  by_cases h0 : s.size = 0
  · rw [if_pos h0, nil_data h0]
    exact ⟨rfl, rfl⟩
  · unfold lneP at h
    rw [decide_eq_false h0, Bool.false_or] at h
    obtain ⟨r, hr⟩ := (suffix_nl _).1 h
    rw [if_neg h0, pcs_data, ba_list, hr, trim_nl]
    have := ln_ends r
    exact ⟨this.1.symm, this.2⟩
theorem lns_no {s : ByteArray} (h : lneP s = false) : ∃ z, (lnsP s).map (·.data.toList) = lnM s.data.toList ++ [z] ∧ lnE s.data.toList = false := by
  unfold lneP at h
  rw [Bool.or_eq_false_iff] at h
  have h0 : ¬ s.size = 0 := of_decide_eq_false h.1
  unfold lnsP
  rw [if_neg h0, pcs_data, ba_list, trim_no h.2]
  refine ln_open ?_ ?_
  · intro e
    have : s.data.toList.length = 0 := by rw [e]; rfl
    exact h0 (by simpa using this)
  · intro e
    have : Lib.hasSuffix s.data.toList [10] = true := by
      refine (suffix_nl _).2 ?_
      obtain ⟨r, hr⟩ := List.getLast?_eq_some_iff.1 e
      exact ⟨r, hr⟩
    rw [h.2] at this; cases this
theorem lns_nil {s : ByteArray} (h : lnsP s = []) : lneP s = true := by
  unfold lnsP at h
  by_cases h0 : s.size = 0
  · unfold lneP; rw [decide_eq_true h0, Bool.true_or]
  · rw [if_neg h0] at h
    have := pcs_len 10 ⟨(Lib.trimSuffix s.data.toList [10]).toArray⟩
    rw [h] at this; simp at this
theorem lns_size {s x : ByteArray} (h : x ∈ lnsP s) : x.size ≤ s.size := by
  unfold lnsP at h
  split at h
  · cases h
  · have h1 := pcs_size h
    rw [ba_size (Lib.trimSuffix s.data.toList [10])] at h1
    have h2 := trimS_size s.data.toList [10]
    have h3 : s.data.toList.length = s.size := by simp
    omega
theorem lns_count (s : ByteArray) : (lnsP s).length ≤ s.size + 1 := by
  unfold lnsP
  split
  · simp
  · have h1 := pcs_le 10 ⟨(Lib.trimSuffix s.data.toList [10]).toArray⟩
    rw [ba_size (Lib.trimSuffix s.data.toList [10])] at h1
    have h2 := trimS_size s.data.toList [10]
    have h3 : s.data.toList.length = s.size := by simp
    omega
end Go.Proofs.YthbcogekfdllmaaGreatDoor

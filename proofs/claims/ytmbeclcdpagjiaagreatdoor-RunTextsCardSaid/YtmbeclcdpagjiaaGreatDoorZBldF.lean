/-
  A strings.Builder as it is written: WriteString, Len, String by contracts; other blocks stay. (Split out of XStp6.)
-/
import Derived.Test.YtmbeclcdpagjiaaGreatDoorZTxt2
import Derived.Test.YtmbeclcdpagjiaaGreatDoorZSjoin
import Derived.Shelf.Strings.BuilderK
import Derived.Shelf.Strings.BuilderF
namespace Go.Proofs.YtmbeclcdpagjiaaGreatDoor
open Go Go.RowKit TxtP

/-- a builder that String() may have read, below a call -/
theorem builderF_below {B b : Nat} {bs : List Value} {w w' : World} (h : Lib.IsBuilderF 87 5 B b bs w) (k : Below w.heap.size w w') : Lib.IsBuilderF 87 5 B b bs w' := by
  have gen : ∀ p, Lib.BuilderAtF 87 5 B b p bs w → Lib.BuilderAtF 87 5 B b p bs w' := by
    intro p hp
    obtain ⟨h1, v, h2, h3, h4⟩ := hp
    refine ⟨h1, v, (k.block b (Array.getElem?_eq_some_iff.1 h2).1).trans h2, ⟨h3.1, ?_⟩, h4⟩
    rcases h3.2 with hn | ⟨g, cap, cur, fz, rfl, hb, hgg, rest⟩
    · exact .inl hn
    · exact .inr ⟨g, cap, cur, fz, rfl, hb, (k.block g (Array.getElem?_eq_some_iff.1 hgg).1).trans hgg, rest⟩
  rcases h with h | h
  · exact Or.inl (gen _ h)
  · exact Or.inr (gen _ h)
theorem Blk.others {w w' : World} {g b : Nat} {t e : TypeId} {cs : Array Value} (h : Blk w g t cs) (k : Lib.OthersKept e (some b) w w') (hg : g ≠ b) (ht : t ≠ e) : Blk w' g t cs :=
  k g _ h (fun h2 => hg (Option.some.inj h2)) (fun c fz h2 => by injection h2 with _ h3 _; exact ht h3)
theorem scells_app (a b : List UInt8) : Lib.byteCells (a ++ b) = Lib.byteCells a ++ Lib.byteCells b := by simp [Lib.byteCells]
theorem writeStringF_calls (B b : Nat) (l : List UInt8) (s : ByteArray) (w : World) (h : Lib.IsBuilderF 87 5 B b (Lib.byteCells l) w) (hl : l.length + s.size ≤ 1000000) (hB : B ≤ w.heap.size) :
    Calls Tryz.prog 48 #[.pointer (some ⟨b, 0, none⟩), .string s] w fun e w' => e = .returned (.tuple #[.int .i64 s.size, .nilIface]) ∧ Lib.IsBuilderF 87 5 B b (Lib.byteCells (l ++ s.data.toList)) w' ∧ Below B w w' ∧ Lib.OthersKept 5 (some b) w w' := by
  refine (Any.Builder_WriteString_k { Tryz.lays156 with } Tryz.Builder_Extra_156 B b (Lib.byteCells l) s w h (by simp [Lib.byteCells]; omega) hB).mono ?_
  rintro e w' ⟨rfl, h1, h2, h3⟩
  refine ⟨rfl, Or.inr ?_, h2, h3⟩
  rw [scells_app]
  exact h1
theorem lenF_calls (B b : Nat) (l : List UInt8) (w : World) (h : Lib.IsBuilderF 87 5 B b (Lib.byteCells l) w) :
    Calls Tryz.prog 50 #[.pointer (some ⟨b, 0, none⟩)] w fun e w' => e = .returned (.int .i64 l.length) ∧ w = w' := by
  refine (Any.Builder_Len_f Tryz.lays170 B b (Lib.byteCells l) w h).mono ?_
  rintro e w' ⟨rfl, h2⟩
  exact ⟨by rw [Lib.byteCells_length], h2.symm⟩
theorem stringF_calls (B b : Nat) (l : List UInt8) (w : World) (h : Lib.IsBuilderF 87 5 B b (Lib.byteCells l) w) (hB : B ≤ w.heap.size) :
    Calls Tryz.prog 51 #[.pointer (some ⟨b, 0, none⟩)] w fun e w' => e = .returned (.string ⟨l.toArray⟩) ∧ Below B w w' :=
  (Any.Builder_String_any_k Tryz.lays169 Tryz.Builder_Extra_169 B b l w h hB).mono (fun _ _ h => ⟨h.1, h.2.2.1⟩)

end Go.Proofs.YtmbeclcdpagjiaaGreatDoor

/-
  Places, beaten runs and would-be ranks in plain words: program and reference are one. No walk.
-/
import Derived.Test.YtapgnaimbgjcnaaGreatDoorZBtR
namespace Go.Proofs.YtapgnaimbgjcnaaGreatDoor
open Go Go.RowKit
theorem one_by {cf : Bev → Bev → Int} (hO : Ord3 cf) (hid : ∀ a b, cf a b = 0 → a.id = b.id) {D : Dsk} (hK : KD D) {xs ys : List Bev} (hm : ∀ x ∈ xs, ∃ r ∈ D.rn, r.1 = x) (hp : xs.Perm ys)
 (h1 : xs.Pairwise (fun a b => 0 ≤ cf b a)) (h2 : ys.Pairwise (fun a b => 0 ≤ cf b a)) : xs = ys := by
 refine List.Perm.eq_of_pairwise (le := fun a b => 0 ≤ cf b a) ?_ h1 h2 hp
 intro a b ha hb hab hba
 have hz : cf a b = 0 := by
  have := hO.neg a b
  omega
 obtain ⟨r, hr, rfl⟩ := hm a ha
 obtain ⟨q, hq, rfl⟩ := hm b (hp.mem_iff.2 hb)
 rw [nodup_inj hK.nd r hr q hq (hid _ _ hz)]
theorem brd_mem {D : Dsk} {cat : ByteArray} {x : Bev} (h : x ∈ brd D cat) : ∃ r ∈ D.rn, r.1 = x := by
 obtain ⟨r, hr, rfl⟩ := List.mem_map.1 h
 exact ⟨r, (List.mem_filter.1 hr).1, rfl⟩
theorem cmpI_ltX {a b : Int} : cmpI a b < 0 ↔ a < b := by
 unfold cmpI
 split
 · constructor <;> intro <;> omega
 · split <;> constructor <;> intro <;> omega
theorem cmpI_eqX {a b : Int} : cmpI a b = 0 ↔ a = b := by
 unfold cmpI
 split
 · constructor <;> intro <;> omega
 · split <;> constructor <;> intro <;> omega
def whoB (who : ByteArray) (o : Bev) : Bool := decide (o.who = who)
def ownB (l : List Bev) (who : ByteArray) : List Bev := l.filter (whoB who)
end Go.Proofs.YtapgnaimbgjcnaaGreatDoor

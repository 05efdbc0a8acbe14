/-
  Places, beaten runs and would-be ranks in plain words: program and reference are one. No walk.
-/
import Derived.Test.YtebaaoacmmhppaaGreatZBtR
namespace Go.Proofs.YtebaaoacmmhppaaGreat
open Go Go.RowKit

/-- the runs on a board that are sorted by an order that tells ids apart are one list -/
theorem one_by {cf : Bev → Bev → Int} (hO : Ord3 cf) (hid : ∀ a b, cf a b = 0 → a.id = b.id) {D : Dsk} (hK : KD D) {xs ys : List Bev} (hm : ∀ x ∈ xs, ∃ r ∈ D.rn, r.1 = x) (hp : xs.Perm ys)
    (h1 : xs.Pairwise (fun a b => 0 ≤ cf b a)) (h2 : ys.Pairwise (fun a b => 0 ≤ cf b a)) : xs = ys := by
  refine List.Perm.eq_of_pairwise (le := fun a b => 0 ≤ cf b a) ?_ h1 h2 hp
  intro a b ha hb hab hba
  have hz : cf a b = 0 := by
    have := hO.neg a b
    omega
  obtain ⟨r, hr, rfl⟩ := hm a ha
  obtain ⟨q, hq, rfl⟩ := hm b (hp.mem_iff.2 hb)
  rw [nodup_inj hK.nd r hr q hq (hid _ _ hz)]
theorem cmpI_eqX {a b : Int} : cmpI a b = 0 ↔ a = b := by
  unfold cmpI
  split
  · constructor <;> intro <;> omega
  · split <;> constructor <;> intro <;> omega
/-- by moment, then id -/
def cmpM (x y : Bev) : Int := if cmpI x.at_ y.at_ = 0 then cmpS x.id y.id else cmpI x.at_ y.at_
theorem ord3_cmpM : Ord3 cmpM := (ord3_int (fun x : Bev => x.at_)).first (ord3_str (fun x : Bev => x.id))
theorem cmpM_id (a b : Bev) (h : cmpM a b = 0) : a.id = b.id := by
  unfold cmpM at h
  split at h
  · exact cmpS_zero h
  · rename_i h2; exact absurd h h2
theorem cmpM_or (x y : Bev) : firstE [cmpI x.at_ y.at_, cmpS x.id y.id] = cmpM x y := by
  unfold cmpM
  simp only [firstE]
  by_cases h1 : cmpI x.at_ y.at_ = 0
  · by_cases h2 : cmpS x.id y.id = 0
    · simp [h1, h2]
    · simp [h1, h2]
  · simp [h1]
def whoB (who : ByteArray) (o : Bev) : Bool := decide (o.who = who)
def ownB (l : List Bev) (who : ByteArray) : List Bev := l.filter (whoB who)
end Go.Proofs.YtebaaoacmmhppaaGreat

/-
  The rows of a board, in plain words: the program's ranks and the reference's are one. No walk.
-/
import Derived.Test.YtapgnaimbgjcnaaGreatDoorZMapR
import Derived.Test.YtapgnaimbgjcnaaGreatDoorZFlat
import Derived.Test.YtapgnaimbgjcnaaGreatDoorZSlotPure
namespace Go.Proofs.YtapgnaimbgjcnaaGreatDoor
open Go Go.RowKit
structure Brw where
 rank : Int
 time : Int
 id : ByteArray
 who : ByteArray
 date : Int
def brwC (x : Brw) : List Value := [.int .i64 x.rank, .int .i64 x.time, .string x.id, .string x.who, .int .i64 x.date]
theorem brwC_len (x : Brw) : (brwC x).length = 5 := rfl
def rkT (p : List Bev) (t : Int) : Int := 1 + ((p.filter (fun o => decide (o.time < t))).length : Int)
def rowOf (p : List Bev) (r : Bev) : Brw := ⟨rkT p r.time, r.time, r.id, r.who, r.date⟩
def rkP (out : List Brw) (t : Int) : Int := match out.getLast? with
 | some o => if o.time = t then o.rank else (out.length : Int) + 1
 | none => (out.length : Int) + 1
def stR (out : List Brw) (x : Bev) : List Brw := out ++ [⟨rkP out x.time, x.time, x.id, x.who, x.date⟩]
theorem rkT_snoc (p : List Bev) (x : Bev) (t : Int) (h : t ≤ x.time) : rkT (p ++ [x]) t = rkT p t := by
 unfold rkT
 rw [List.filter_append, List.filter_cons_of_neg (by simpa using h), List.filter_nil, List.append_nil]
theorem rkP_eq (p : List Bev) (x : Bev) (hs : p.Pairwise (fun a b => a.time ≤ b.time)) (hx : ∀ a ∈ p, a.time ≤ x.time) : rkP (p.map (rowOf p)) x.time = rkT p x.time := by
 rcases List.eq_nil_or_concat p with rfl | ⟨q, y, rfl⟩
 · rfl
 · rw [List.concat_eq_append] at hs hx ⊢
   have hl : ((q ++ [y]).map (rowOf (q ++ [y]))).getLast? = some (rowOf (q ++ [y]) y) := by
    rw [List.map_append]
    exact List.getLast?_concat
   unfold rkP
   rw [hl]
   simp only
   by_cases e : y.time = x.time
   · rw [if_pos (show (rowOf (q ++ [y]) y).time = x.time from e)]
     show rkT (q ++ [y]) y.time = _
     rw [e]
   · rw [if_neg (show ¬ (rowOf (q ++ [y]) y).time = x.time from e)]
     have hy := hx y (by simp)
     have hq := (List.pairwise_append.1 hs).2.2
     unfold rkT
     rw [List.filter_eq_self.2 (fun a ha => by
      rcases List.mem_append.1 ha with ha | ha
      · have := hq a ha y (by simp)
        exact decide_eq_true (by omega)
      · simp at ha; subst ha; exact decide_eq_true (by omega)), List.length_map]
     omega
theorem stR_step (p : List Bev) (x : Bev) (hs : (p ++ [x]).Pairwise (fun a b => a.time ≤ b.time)) : stR (p.map (rowOf p)) x = (p ++ [x]).map (rowOf (p ++ [x])) := by
 obtain ⟨h1, _, h3⟩ := List.pairwise_append.1 hs
 have hx : ∀ a ∈ p, a.time ≤ x.time := fun a ha => h3 a ha x (by simp)
 unfold stR
 rw [List.map_append, rkP_eq p x h1 hx]
 congr 1
 · refine List.map_congr_left (fun a ha => ?_)
   unfold rowOf
   rw [rkT_snoc p x _ (hx a ha)]
 · show [_] = [rowOf (p ++ [x]) x]
   unfold rowOf
   rw [rkT_snoc p x _ (Int.le_refl _)]
theorem stR_all : ∀ (q p : List Bev), (p ++ q).Pairwise (fun a b => a.time ≤ b.time) → q.foldl stR (p.map (rowOf p)) = (p ++ q).map (rowOf (p ++ q))
 | [], p, _ => by rw [List.append_nil]; rfl
 | x :: q, p, h => by
   have e : p ++ x :: q = (p ++ [x]) ++ q := by simp
   rw [e] at h ⊢
   rw [List.foldl_cons, stR_step p x (List.pairwise_append.1 h).1]
   exact stR_all q (p ++ [x]) h
def stW (out : List Bev) (x : Bev) : List Bev := if out.any (fun o => decide (o.who = x.who)) = true then out else out ++ [x]
def bstW (l : List Bev) : List Bev := l.foldl stW []
def rowsB (l : List Bev) : List Brw := (bstW l).map (rowOf (bstW l))
theorem stW_sub (l : List Bev) : ∀ out, ∃ z, l.foldl stW out = out ++ z ∧ z.Sublist l := by
 induction l with
 | nil => exact fun out => ⟨[], by simp, List.Sublist.refl _⟩
 | cons x l ih =>
   intro out
   rw [List.foldl_cons]
   obtain ⟨z, h1, h2⟩ := ih (stW out x)
   unfold stW at h1 ⊢
   split at h1
   · rename_i h; rw [if_pos h]; exact ⟨z, h1, h2.cons x⟩
   · rename_i h; rw [if_neg h]; exact ⟨x :: z, by rw [h1]; simp, h2.cons_cons x⟩
theorem bstW_sub (l : List Bev) : (bstW l).Sublist l := by
 obtain ⟨z, h1, h2⟩ := stW_sub l []
 unfold bstW
 rw [h1, List.nil_append]
 exact h2
theorem cmpT_time {a b : Bev} (h : 0 ≤ cmpT b a) : a.time ≤ b.time := by
 unfold cmpT at h
 unfold cmpI at h
 by_cases h1 : a.time ≤ b.time
 · exact h1
 · rw [if_pos (by omega : b.time < a.time)] at h
   simp at h
theorem rowsB_fold {l : List Bev} (hs : l.Pairwise (fun a b => 0 ≤ cmpT b a)) : (bstW l).foldl stR [] = rowsB l :=
 stR_all (bstW l) [] ((hs.imp (fun h => cmpT_time h)).sublist (bstW_sub l))
end Go.Proofs.YtapgnaimbgjcnaaGreatDoor
/-
  Rows of a board and their types; an event's eight cells in a row of events.
-/
namespace Go.Proofs.YtapgnaimbgjcnaaGreatDoor
open Go Go.RowKit
theorem info_row : (Tryz.prog.info? 80).map (fun i => (i.zero, i.size, i.bytes)) = some (some (.agg #[.int .i64 0, .int .i64 0, .string ⟨#[]⟩, .string ⟨#[]⟩, .int .i64 0]), 5, 56) := by kernel_rfl
theorem ev_cells {w : World} {base : Nat} {e : TypeId} {g cap n : Nat} {ys : List Bev} (h : w.ownsRow base e 8 (.slice (some ⟨g, 0, none⟩) n cap) n (ys.flatMap bevC)) (k : Nat) (hk : k < ys.length) (hn : k < n) :
 w.cell? ⟨g, k * 8, none⟩ = some (.int .i64 ys[k].at_) ∧ w.cell? ⟨g, k * 8 + 1, none⟩ = some (.int .i64 ys[k].kind) ∧ w.cell? ⟨g, k * 8 + 2, none⟩ = some (.string ys[k].id) ∧ w.cell? ⟨g, k * 8 + 3, none⟩ = some (.string ys[k].who) ∧ w.cell? ⟨g, k * 8 + 4, none⟩ = some (.string ys[k].by_) ∧ w.cell? ⟨g, k * 8 + 5, none⟩ = some (.string ys[k].cat) ∧ w.cell? ⟨g, k * 8 + 6, none⟩ = some (.int .i64 ys[k].time) ∧ w.cell? ⟨g, k * 8 + 7, none⟩ = some (.int .i64 ys[k].date) := by
 have a := fun j hj => own_cell bevC 8 bevC_len h k j hk hn hj
 exact ⟨a 0 (by omega), a 1 (by omega), a 2 (by omega), a 3 (by omega), a 4 (by omega), a 5 (by omega), a 6 (by omega), a 7 (by omega)⟩
theorem rw_cells {w : World} {base : Nat} {e : TypeId} {g cap n : Nat} {ys : List Brw} (h : w.ownsRow base e 5 (.slice (some ⟨g, 0, none⟩) n cap) n (ys.flatMap brwC)) (k : Nat) (hk : k < ys.length) (hn : k < n) :
 w.cell? ⟨g, k * 5, none⟩ = some (.int .i64 ys[k].rank) ∧ w.cell? ⟨g, k * 5 + 1, none⟩ = some (.int .i64 ys[k].time) ∧ w.cell? ⟨g, k * 5 + 2, none⟩ = some (.string ys[k].id) ∧ w.cell? ⟨g, k * 5 + 3, none⟩ = some (.string ys[k].who) ∧ w.cell? ⟨g, k * 5 + 4, none⟩ = some (.int .i64 ys[k].date) := by
 have a := fun j hj => own_cell brwC 5 brwC_len h k j hk hn hj
 exact ⟨a 0 (by omega), a 1 (by omega), a 2 (by omega), a 3 (by omega), a 4 (by omega)⟩
theorem Sq.rebase {w W : World} {l : List Rsc} {b0 b1 : Nat} {e : TypeId} {k n : Nat} {v : Value} {xs : List Value} (h : Sq w W (rOwn b1 e k v n xs :: l)) (hb : b0 ≤ b1) : Sq w W (rOwn b0 e k v n xs :: l) :=
 ⟨h.below, h.hp.tail.cons (own_base h.head hb) (rOwn_ok _ _ _ _ _ _) (fun g hg => h.hp.new _ (List.mem_cons_self ..) g hg) (fun s hs g hg hg2 => (List.pairwise_cons.1 h.hp.apart).1 s hs g hg hg2)⟩
theorem own_ptr {w : World} {base n c k : Nat} {e : TypeId} {A : Option Addr} {xs : List Value} (h : w.ownsRow base e k (.slice A n c) n xs) (h0 : 0 < n) : ∃ g, A = some ⟨g, 0, none⟩ := by
 rcases h.2 with ⟨he, hx⟩ | ⟨g, cap, cur, he, _⟩
 · exact absurd (by injection he) (by omega : ¬ n = 0)
 · injection he with he; exact ⟨g, he⟩
end Go.Proofs.YtapgnaimbgjcnaaGreatDoor

/-
  Steps as the stream makes them, nearly always right ones: RaceSteps by its contract.
-/
import Derived.Test.YthbcogekfdllmaaGreatZStp8
namespace Go.Proofs.YthbcogekfdllmaaGreat
open Go Go.RowKit

theorem sp_someOf {w W : World} {b K : Nat} {l : List Rsc} (h : Sp w b K W l) (i : Nat) {g n : Nat} {t : TypeId} {cs : Array Value} {p : ByteArray → Prop} (hi : l[i]? = some (rBlk g t cs)) (h0 : 0 < n) (hn : n ≤ maxLen) (hs : cs.size = n) (hx : ∀ x ∈ cs.toList, ∃ z : ByteArray, x = .string z ∧ p z) (hK : K ≤ 10000000) :
    Calls Tryz.prog 29 #[.pointer (some ⟨b, 0, none⟩), .slice (some ⟨g, 0, none⟩) n n] W (SpS (fun v => ∃ z : ByteArray, v = .string z ∧ p z) w b (K + 1) l) :=
  (some_calls b K _ n n cs.toList W h0 (blkRd 1 n (h.nth i hi) (h.ne i hi) hn (by omega)) (fun x hx' => by obtain ⟨z, hz, _⟩ := hx x hx'; exact ⟨z, hz⟩) h.strm hK).mono (fun e w' ⟨v, he, h1, hs, hb⟩ => ⟨_, he, hx v h1, h.call hs hb⟩)
/-- steps in new memory, drawn, nearly always right ones -/
def RcSt (b K m : Nat) (w : World) (e : Ending) (w' : World) : Prop :=
  ∃ (v : Value) (l : List Stp), e = .returned v ∧ l.length = m ∧ (∀ s ∈ l, s.who.size ≤ 1000 ∧ s.who ∈ nms6) ∧ Sp w b K w' [rOwn w.heap.size 63 3 v m (l.flatMap stC)]
theorem Sp.bare1 {w W : World} {b K : Nat} {r : Rsc} {L : List Rsc} (h : Sp w b K W (r :: L)) : Sp w b K W [r] := by
  induction L with
  | nil => exact h
  | cons a t ih => exact ih (h.drop 1 rfl rfl)
set_option maxRecDepth 100000 in
set_option maxHeartbeats 2000000 in
theorem raceSteps_calls (b K m : Nat) (w : World) (hs : Strm w b K) (hK : K ≤ 800000) (hm : m ≤ 24) :
    Calls Tryz.prog 4 #[.pointer (some ⟨b, 0, none⟩), .int .i64 m] w (RcSt b (K + 110) m w) := by
  go_enter Tryz.func4, Tryz.ntmps4
  go_wp2_with fail
  refine (rightSteps_calls b K m w hs (by omega) hm).mono ?_
  rintro e w1 ⟨v, l, rfl, hlm, HRS, hS⟩
  have HWH : Hid (∀ s ∈ l, s.who.size ≤ 40 ∧ s.who ∈ nms6) := Lib.hid (fun s hs => ⟨HRS.who s hs, HRS.nm s hs⟩)
  have HO : w1.ownsRow w.heap.size 63 3 v m (l.flatMap stC) := hS.head
  obtain ⟨A, c, hv⟩ := own_form HO
  subst hv
  have hcap := own_cap HO
  clear HRS
  by_cases hm0 : m = 0
  · subst hm0
    go_wp2_with fail
    go_ret
    exact ⟨_, l, rfl, hlm, fun s hs => ⟨Nat.le_trans (HWH.out s hs).1 (by decide), (HWH.out s hs).2⟩, hS.more (by omega)⟩
  · have hmp : 0 < m := by omega
    obtain ⟨g, cap, hv, _, _⟩ := HO.form (by omega)
    injection hv with hA _ hc
    subst hA hc
    clear HO
    go_wp2_with fail
    refine (sp_flip hS 10 (by omega) (by omega) (by omega)).mono ?_
    rintro e w2 ⟨_, rfl, ⟨fv, rfl⟩, hS2⟩
    clear hS
    cases fv
    · go_wp2_with fail
      go_ret
      exact ⟨_, l, rfl, hlm, fun s hs => ⟨Nat.le_trans (HWH.out s hs).1 (by decide), (HWH.out s hs).2⟩, hS2.more (by omega)⟩
    · go_wp2_with fail
      refine (sp_next hS2 m (by omega) (by omega) (by omega)).mono ?_
      rintro e w3 ⟨_, rfl, ⟨i, rfl, i0, i1⟩, hS3⟩
      obtain ⟨i, rfl⟩ := Int.eq_ofNat_of_zero_le i0
      clear hS2
      have hi0 : (0 : Int) ≤ (i : Int) := by omega
      have hi1 : (i : Int) < (m : Int) := by omega
      go_upto_region 4 with (fail)
      have hil : i < l.length := by omega
      obtain ⟨hx40, hxn⟩ := HWH.out _ (List.getElem_mem hil)
      obtain ⟨x, hx⟩ : ∃ x, x = l[i].who := ⟨_, rfl⟩
      rw [← hx] at hx40 hxn
      have HO3 : w3.ownsRow w.heap.size 63 3 (.slice (some ⟨g, 0, none⟩) m c) m (l.flatMap stC) := hS3.head
      have HCL : Hid (∀ V : World, V.ownsRow w.heap.size 63 3 (.slice (some ⟨g, 0, none⟩) m c) m (l.flatMap stC) → V.cell? ⟨g, i * 3, none⟩ = some (.int .i64 l[i].at_) ∧ V.cell? ⟨g, i * 3 + 1, none⟩ = some (.int .i64 l[i].kind) ∧ V.cell? ⟨g, i * 3 + 2, none⟩ = some (.string x) ∧ V.frozen? ⟨g, i * 3, none⟩ = false ∧ V.frozen? ⟨g, i * 3 + 1, none⟩ = false ∧ V.frozen? ⟨g, i * 3 + 2, none⟩ = false) := by
        refine Lib.hid (fun V h => ?_)
        have y0 := own_cell stC 3 stC_len h i 0 hil (by omega) (by omega)
        have y1 := own_cell stC 3 stC_len h i 1 hil (by omega) (by omega)
        have y2 := own_cell stC 3 stC_len h i 2 hil (by omega) (by omega)
        exact ⟨y0, y1, by rw [hx]; exact y2, h.frozenAt (i * 3), h.frozenAt (i * 3 + 1), h.frozenAt (i * 3 + 2)⟩
      have HFIN : Hid (∀ (V : World) (K' : Nat) (L : List Rsc) (a k : Int) (y : ByteArray), y.size ≤ 1000 ∧ y ∈ nms6 → K' ≤ K + 110 → Sp w b K' V (rOwn w.heap.size 63 3 (.slice (some ⟨g, 0, none⟩) m c) m (l.flatMap stC) :: L) → ∃ l' : List Stp, l'.length = m ∧ (∀ s ∈ l', s.who.size ≤ 1000 ∧ s.who ∈ nms6) ∧ Sp w b (K + 110) (((V.setCell ⟨g, i * 3, none⟩ (.int .i64 a)).setCell ⟨g, i * 3 + 1, none⟩ (.int .i64 k)).setCell ⟨g, i * 3 + 2, none⟩ (.string y)) [rOwn w.heap.size 63 3 (.slice (some ⟨g, 0, none⟩) m c) m (l'.flatMap stC)]) := by
        refine Lib.hid (fun V K' L a k y hy hK' h => ?_)
        have h0 : Sp w b K' V [rOwn w.heap.size 63 3 (.slice (some ⟨g, 0, none⟩) m c) m (l.flatMap stC)] := h.bare1
        have hS6 := Sp.field stC 3 stC_len (rs := l) (by rw [hlm]; exact h0) i 0 hil (by omega) (.int .i64 a) ⟨a, l[i].kind, l[i].who⟩ rfl
        have hil2 : i < (l.set i ⟨a, l[i].kind, l[i].who⟩).length := by rw [List.length_set]; exact hil
        have hS7 := Sp.field stC 3 stC_len (rs := l.set i ⟨a, l[i].kind, l[i].who⟩) hS6 i 1 hil2 (by omega) (.int .i64 k) ⟨a, k, l[i].who⟩ (by rw [List.getElem_set_self]; rfl)
        have hil3 : i < ((l.set i ⟨a, l[i].kind, l[i].who⟩).set i ⟨a, k, l[i].who⟩).length := by rw [List.length_set]; exact hil2
        have hS8 := Sp.field stC 3 stC_len (rs := (l.set i ⟨a, l[i].kind, l[i].who⟩).set i ⟨a, k, l[i].who⟩) hS7 i 2 hil3 (by omega) (.string y) ⟨a, k, y⟩ (by rw [List.getElem_set_self]; rfl)
        refine ⟨((l.set i ⟨a, l[i].kind, l[i].who⟩).set i ⟨a, k, l[i].who⟩).set i ⟨a, k, y⟩, by rw [List.length_set, List.length_set, List.length_set, hlm], fun s hs => ?_, ?_⟩
        · rcases List.mem_or_eq_of_mem_set hs with hs | hs
          · rcases List.mem_or_eq_of_mem_set hs with hs | hs
            · rcases List.mem_or_eq_of_mem_set hs with hs | hs
              · exact ⟨Nat.le_trans (HWH.out s hs).1 (by decide), (HWH.out s hs).2⟩
              · subst hs; show l[i].who.size ≤ 1000 ∧ l[i].who ∈ nms6; rw [← hx]; exact ⟨by omega, hxn⟩
            · subst hs; show l[i].who.size ≤ 1000 ∧ l[i].who ∈ nms6; rw [← hx]; exact ⟨by omega, hxn⟩
          · subst hs; exact hy
        · have h9 := hS8.more (K' := K + 110) hK'
          rw [List.length_set, List.length_set, List.length_set, hlm] at h9
          exact h9
      obtain ⟨_, _, x2, _, _, _⟩ := HCL.out _ HO3
      have hS3d := hS3.drew
      have hSA := (hS3.add #[.string x, .string ⟨#[]⟩, .string ⟨#[65]⟩, .string ⟨#[97, 110, 110]⟩] 9).drew.front 1 rfl rfl
      have hsx : ∀ y ∈ (#[.string x, .string ⟨#[]⟩, .string ⟨#[65]⟩, .string ⟨#[97, 110, 110]⟩] : Array Value).toList, ∃ z : ByteArray, y = .string z ∧ (z.size ≤ 1000 ∧ z ∈ nms6) := by
        intro y hy
        simp only [List.mem_cons, List.not_mem_nil, or_false] at hy
        rcases hy with rfl | rfl | rfl | rfl
        · exact ⟨_, rfl, by omega, hxn⟩
        · exact ⟨_, rfl, by show 0 ≤ 1000; omega, by simp [nms6]⟩
        · exact ⟨_, rfl, by show 1 ≤ 1000; omega, by simp [nms6]⟩
        · exact ⟨_, rfl, by show 3 ≤ 1000; omega, by simp [nms6]⟩
      have HSX := Lib.hid hsx
      have HK : Hid (K + 110 ≤ 1000000) := Lib.hid (by omega)
      have HO1 : Hid (∀ V L, Sp w b (K + 100 + 1 + 1) V L → Calls Tryz.prog 28 #[.pointer (some ⟨b, 0, none⟩), .int .i64 0, .int .i64 100] V (SpS (IsInt (-1099511627776) 1099511627776) w b (K + 104) L)) := Lib.hid (fun V L h => sp_odd h 0 100 (by omega) (by omega) (by omega) (by omega))
      have HO2 : Hid (∀ V L, Sp w b (K + 104) V L → Calls Tryz.prog 28 #[.pointer (some ⟨b, 0, none⟩), .int .i64 1, .int .i64 8] V (SpS (IsInt (-1099511627776) 1099511627776) w b (K + 106) L)) := Lib.hid (fun V L h => sp_odd h 1 8 (by omega) (by omega) (by omega) (by omega))
      have HO3s : Hid (∀ V L gl, Sp w b (K + 106) V (rOwn w.heap.size 63 3 (.slice (some ⟨g, 0, none⟩) m c) m (l.flatMap stC) :: rBlk gl 9 #[.string x, .string ⟨#[]⟩, .string ⟨#[65]⟩, .string ⟨#[97, 110, 110]⟩] :: L) → Calls Tryz.prog 29 #[.pointer (some ⟨b, 0, none⟩), .slice (some ⟨gl, 0, none⟩) 4 4] V (SpS (fun v => ∃ z : ByteArray, v = .string z ∧ (z.size ≤ 1000 ∧ z ∈ nms6)) w b (K + 107) (rOwn w.heap.size 63 3 (.slice (some ⟨g, 0, none⟩) m c) m (l.flatMap stC) :: rBlk gl 9 #[.string x, .string ⟨#[]⟩, .string ⟨#[65]⟩, .string ⟨#[97, 110, 110]⟩] :: L))) := Lib.hid (fun V L gl h => sp_someOf h 1 rfl (by decide) (by decide) rfl hsx (by omega))
      have HO4s : Hid (∀ V L, Sp w b (K + 106) V (rOwn w.heap.size 63 3 (.slice (some ⟨g, 0, none⟩) m c) m (l.flatMap stC) :: L) → Calls Tryz.prog 29 #[.pointer (some ⟨b, 0, none⟩), .slice (some ⟨V.heap.size, 0, none⟩) 4 4] (V.alloc (.cells #[.string x, .string ⟨#[]⟩, .string ⟨#[65]⟩, .string ⟨#[97, 110, 110]⟩] 9)) (SpS (fun v => ∃ z : ByteArray, v = .string z ∧ (z.size ≤ 1000 ∧ z ∈ nms6)) w b (K + 107) (rOwn w.heap.size 63 3 (.slice (some ⟨g, 0, none⟩) m c) m (l.flatMap stC) :: L))) := Lib.hid (fun V L h => (sp_someOf (n := 4) (h.add #[.string x, .string ⟨#[]⟩, .string ⟨#[65]⟩, .string ⟨#[97, 110, 110]⟩] 9) 0 rfl (by decide) (by decide) rfl hsx (by omega)).mono (fun _e _w' ⟨_v, he, h1, hs⟩ => ⟨_, he, h1, hs.tail⟩))
      go_cut [] (fun V => ∃ l' : List Stp, l'.length = m ∧ (∀ s ∈ l', s.who.size ≤ 1000 ∧ s.who ∈ nms6) ∧ Sp w b (K + 110) V [rOwn w.heap.size 63 3 (.slice (some ⟨g, 0, none⟩) m c) m (l'.flatMap stC)])
      case first =>
        have HK7 : Hid (K + 107 ≤ K + 110) := Lib.hid (by omega)
        clear HO3 hsx HSX HWH hS3 hx hx40 hlm
        go_region_law (first
          | (go_simp; go_at_call 28; ((with_reducible refine (HO1.out _ _ hS3d).mono ?_); rintro e w4 ⟨_, rfl, ⟨ta, rfl, _, _⟩, hT⟩; obtain ⟨_, _, x4, _, _, _⟩ := HCL.out _ hT.head; have hTA := (hT.add #[.string x, .string ⟨#[]⟩, .string ⟨#[65]⟩, .string ⟨#[97, 110, 110]⟩] 9).front 1 rfl rfl))
          | (go_simp; go_at_call 28; ((with_reducible refine (HO1.out _ _ hSA).mono ?_); rintro e w4 ⟨_, rfl, ⟨ta, rfl, _, _⟩, hT⟩))
          | (go_simp; go_at_call 28; ((with_reducible refine (HO2.out _ _ hT).mono ?_); rintro e w5 ⟨_, rfl, ⟨tk, rfl, _, _⟩, hT2⟩; obtain ⟨_, _, x5, _, _, _⟩ := HCL.out _ hT2.head))
          | (go_simp; go_at_call 28; ((with_reducible refine (HO2.out _ _ hTA).mono ?_); rintro e w5 ⟨_, rfl, ⟨tk, rfl, _, _⟩, hT2⟩))
          | (go_simp; go_at_call 29; ((with_reducible refine (HO3s.out _ _ _ hT2).mono ?_); rintro e w6 ⟨_, rfl, ⟨y, rfl, hy⟩, hT3⟩; obtain ⟨y0, y1, y2, f0, f1, f2⟩ := HCL.out _ hT3.head))
          | (go_simp; go_at_call 29; ((with_reducible refine (HO4s.out _ _ hT2).mono ?_); rintro e w6 ⟨_, rfl, ⟨y, rfl, hy⟩, hT3⟩; obtain ⟨y0, y1, y2, f0, f1, f2⟩ := HCL.out _ hT3.head)))
        all_goals (go_wp2_with fail; go_meet)
        all_goals exact HFIN.out _ _ _ _ _ _ hy HK7.out hT3
      case rest =>
        obtain ⟨l2, hl2, hw2, hS9⟩ := hcut
        clear HFIN HCL HO1 HO2 HO3s HO4s
        go_wp2_with fail
        go_ret
        exact ⟨_, l2, rfl, hl2, hw2, hS9⟩
end Go.Proofs.YthbcogekfdllmaaGreat

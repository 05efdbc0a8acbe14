/-
  Presses that are written: timer.Text by its contract.
-/
import Derived.Test.YticbbehfphnbhaaGreatDoorZPrt2
import Derived.Test.YticbbehfphnbhaaGreatDoorZPrs1
import Derived.Test.YticbbehfphnbhaaGreatDoorZSjoin
import Derived.Lib.ItoaLen
namespace Go.Proofs.YticbbehfphnbhaaGreatDoor
open Go Go.RowKit TxtP

/-- a press's line -/
def lineT (p : Pz) : List UInt8 := Lib.itoa p.1 ++ [32] ++ (wordsL.getD p.2.toNat ⟨#[]⟩).data.toList ++ [10]
def linesT (l : List Pz) : List UInt8 := l.flatMap lineT
theorem words_small (k : Nat) : (wordsL.getD k ⟨#[]⟩).data.toList.length ≤ 10 := by
  have h : ∀ x ∈ wordsL, x.data.toList.length ≤ 10 := by decide
  rw [List.getD_eq_getElem?_getD]
  by_cases hk : k < wordsL.length
  · rw [List.getElem?_eq_getElem hk]
    exact h _ (List.getElem_mem hk)
  · rw [List.getElem?_eq_none (by omega)]
    exact Nat.zero_le _
theorem lineT_le {p : Pz} (h0 : -9223372036854775808 ≤ p.1) (h1 : p.1 ≤ 9223372036854775807) : (lineT p).length ≤ 40 := by
  have h2 := Lib.itoa_length_le p.1 h0 h1
  have h3 := words_small p.2.toNat
  unfold lineT
  simp only [List.length_append, List.length_singleton]
  omega
theorem linesT_le {l : List Pz} (h : ∀ p ∈ l, -9223372036854775808 ≤ p.1 ∧ p.1 ≤ 9223372036854775807) : (linesT l).length ≤ 40 * l.length := by
  induction l with
  | nil => simp [linesT]
  | cons a t ih =>
    have h1 := ih (fun p hp => h p (List.mem_cons_of_mem _ hp))
    have h2 := lineT_le (h a (List.mem_cons_self ..)).1 (h a (List.mem_cons_self ..)).2
    unfold linesT at h1 ⊢
    rw [List.flatMap_cons, List.length_append, List.length_cons]
    omega
theorem linesT_snoc (l : List Pz) (p : Pz) : linesT (l ++ [p]) = linesT l ++ lineT p := by simp [linesT]
theorem bcells_app (a b : List UInt8) : Lib.byteCells (a ++ b) = Lib.byteCells a ++ Lib.byteCells b := by simp [Lib.byteCells]
theorem writeString_calls (B b : Nat) (l : List UInt8) (s : ByteArray) (w : World) (h : Lib.IsBuilder 72 5 B b (Lib.byteCells l) w) (hl : l.length + s.size ≤ 1000000) (hB : B ≤ w.heap.size) :
    Calls Tryz.prog 42 #[.pointer (some ⟨b, 0, none⟩), .string s] w fun e w' => e = .returned (.tuple #[.int .i64 s.size, .nilIface]) ∧ Lib.IsBuilder 72 5 B b (Lib.byteCells (l ++ s.data.toList)) w' ∧ Below B w w' := by
  refine (Any.Builder_WriteString { Tryz.lays156 with } Tryz.Builder_Extra_156 B b (Lib.byteCells l) s w h (by simp [Lib.byteCells]; omega) hB).mono ?_
  rintro e w' ⟨rfl, h1, h2⟩
  refine ⟨rfl, Or.inr ?_, h2⟩
  rw [bcells_app]
  exact h1

def TxtR (l : List Pz) (w : World) (e : Ending) (w' : World) : Prop := BRet (.tuple #[.string (if prF l = 0 then ⟨(linesT l).toArray⟩ else ⟨#[]⟩), .int .i64 (prF l)]) w e w'
theorem linesT_take {l : List Pz} {k : Nat} (hk : k < l.length) : linesT (l.take (k + 1)) = linesT (l.take k) ++ lineT l[k] := by
  rw [List.take_succ_eq_append_getElem hk, linesT_snoc]
theorem kinds_word {k : Int} (h : 1 ≤ k ∧ k ≤ 9) : (strCs kindsL)[(k - 1).toNat]? = some (.string (wordsL.getD k.toNat ⟨#[]⟩)) := by
  obtain ⟨m, hm⟩ : ∃ m : Nat, k = m := ⟨k.toNat, by omega⟩
  subst hm
  obtain ⟨j, rfl⟩ : ∃ j, m = j + 1 := ⟨m - 1, by omega⟩
  have h9 : kindsL.length = 9 := rfl
  have hj : j < kindsL.length := by omega
  have e1 : (((j + 1 : Nat) : Int) - 1).toNat = j := by omega
  have e2 : (((j + 1 : Nat) : Int)).toNat = j + 1 := by omega
  rw [e1, e2, strCs_at hj]
  unfold wordsL
  rw [List.getD_cons_succ, List.getD_eq_getElem?_getD, List.getElem?_eq_getElem hj]
  rfl
/-- strings that are added up, as a law of its own -/
def sumS (a b : ByteArray) : ByteArray := a ++ b
def AddOk (a b : ByteArray) : Prop := a.size + b.size ≤ 1000000
theorem run_sumS {P : Program} {w : World} (a b : ByteArray) (h : AddOk a b) : (Op.stringOp .add a b).run P w = .ok (.string (sumS a b)) w := by
  refine run_string_add_sum _ _ _ ?_
  unfold AddOk at h
  omega
theorem sumS_data (a b : ByteArray) : (sumS a b).data.toList = a.data.toList ++ b.data.toList := by
  unfold sumS
  rw [ByteArray.data_append, Array.toList_append]
theorem sumS_size (a b : ByteArray) : (sumS a b).size = a.size + b.size := by
  unfold sumS
  rw [ByteArray.size_append]
attribute [local go_sem ↓ high] run_sumS
theorem builder_below {B b : Nat} {bs : List Value} {w w' : World} (h : Lib.IsBuilder 72 5 B b bs w) (k : Below w.heap.size w w') : Lib.IsBuilder 72 5 B b bs w' := by
  have gen : ∀ p, Lib.BuilderAt 72 5 B b p bs w → Lib.BuilderAt 72 5 B b p bs w' := by
    intro p hp
    have hlt := hp.lt
    obtain ⟨h1, v, h2, h3, h4⟩ := hp
    exact ⟨h1, v, (k.block b hlt).trans h2, own_below h3 k, h4⟩
  rcases h with h | h
  · exact Or.inl (gen _ h)
  · exact Or.inr (gen _ h)
/-- the line of a press, added up -/
abbrev lineS (t k : ByteArray) : ByteArray := sumS (sumS (sumS t ⟨#[32]⟩) k) ⟨#[10]⟩
set_option maxRecDepth 100000 in
set_option maxHeartbeats 4000000 in
theorem text_calls (b : Nat) (A : Option Addr) (n c : Nat) (l : List Pz) (w : World) (hr : Rd w b 2 (.slice A n c) n (l.flatMap pzC)) (hb : b < w.heap.size) (ht : Tab w) (hn : n ≤ 100) :
    Calls Tryz.prog 9 #[.slice A n c] w (TxtR l w) := by
  have HCK := Lib.hid (checkPresses_calls b A n c l w hr)
  by_cases hF : prF l = 0
  · have hok := (prF_ok hF).1
    obtain ⟨hl, hnc, hcm, hcells⟩ := hr.cells pzC_len (by omega)
    rw [hF] at HCK
    have hle := linesT_le (l := l) (fun p hp => by have := hok.at_ p hp; omega)
    have HR : Hid (∀ w', Below w.heap.size w w' → TxtR l w (.returned (.tuple #[.string ⟨(linesT l).toArray⟩, .int .i64 0])) w') := by
      refine Lib.hid (fun w' h => ?_)
      unfold TxtR
      rw [if_pos hF, hF]
      exact ⟨rfl, h⟩
    have HOK := Lib.hid hok
    have HL := Lib.hid hl
    have HCL := Lib.hid hcells
    have hgt : (linesT l).length ≤ 4000 := by omega
    clear hr hF hok hl hcells hle
    go_enter Tryz.func9, Tryz.ntmps9
    go_wp2_with (first | (go_at_call 41; refine HCK.out.mono ?_; rintro e w1 ⟨rfl, hb1⟩))
    have HB1 := Lib.hid hb1
    obtain ⟨G, hG⟩ : ∃ G, w1.heap.size = G := ⟨_, rfl⟩
    have hGw : w.heap.size ≤ G := by rw [← hG]; exact hb1.size
    have hI0 : Lib.IsBuilder 72 5 G G (Lib.byteCells (linesT (l.take 0))) (w1.alloc (.cells #[.pointer none, .slice none 0 0] 72)) := by
      rw [← hG]; exact Lib.fresh_isBuilder _ _ w1
    have hbA : Below w.heap.size w (w1.alloc (.cells #[.pointer none, .slice none 0 0] 72)) := hb1.alloc hb1.size _
    have hsA : G < (w1.alloc (.cells #[.pointer none, .slice none 0 0] 72)).heap.size := by rw [World.size_alloc, hG]; omega
    rw [hG]
    clear hb1 hG
    go_loopw [15] (fun i wr => ∃ k : Nat, k ≤ n ∧ i = .int .i64 k ∧ Hid (Lib.IsBuilder 72 5 G G (Lib.byteCells (linesT (l.take k))) wr) ∧ Below w.heap.size w wr ∧ G < wr.heap.size) (fun i _ => n - (intOf i).toNat)
    case atStart => exact ⟨0, Nat.zero_le _, rfl, Lib.hid hI0, hbA, hsA⟩
    case round =>
      clear hI0 hbA hsA
      obtain ⟨k, hk, rfl, HI, hbr, hsr⟩ := hrel
      by_cases hlt : k < n
      · have hkr : k < l.length := by rw [HL.out]; exact hlt
        obtain ⟨g, o, hA, _, hcs⟩ := HCL.out (by omega)
        subst hA
        have c0 := below_cell hbr (hcs k hkr 0 (by omega))
        have c1 := below_cell hbr (hcs k hkr 1 (by omega))
        have hp1 := HOK.out.at_ _ (List.getElem_mem hkr)
        have hp2 := HOK.out.kind _ (List.getElem_mem hkr)
        obtain ⟨p, hp⟩ : ∃ p, p = l[k] := ⟨_, rfl⟩
        rw [← hp] at c0 c1 hp1 hp2
        obtain ⟨at_, kd⟩ := p
        replace c0 : wr.cell? ⟨g, o + k * 2, none⟩ = some (.int .i64 at_) := c0
        replace c1 : wr.cell? ⟨g, o + k * 2 + 1, none⟩ = some (.int .i64 kd) := c1
        replace hp1 : 0 ≤ at_ ∧ at_ ≤ 345686399999 := hp1
        replace hp2 : 1 ≤ kd ∧ kd ≤ 9 := hp2
        obtain ⟨t, ht1⟩ : ∃ t : ByteArray, t = ⟨(Lib.itoa at_).toArray⟩ := ⟨_, rfl⟩
        have hts : t.size ≤ 21 := by rw [ht1, ba_size]; exact Lib.itoa_length_le at_ (by omega) (by omega)
        obtain ⟨kw, hkw⟩ : ∃ kw, kw = wordsL.getD kd.toNat ⟨#[]⟩ := ⟨_, rfl⟩
        have hks : kw.size ≤ 10 := by have := words_small kd.toNat; rw [← hkw] at this; simpa using this
        have hkc := kinds_word hp2
        rw [← hkw] at hkc
        have HLN : Hid (linesT (l.take (k + 1)) = linesT (l.take k) ++ (lineS t kw).data.toList) := by
          refine Lib.hid ?_
          rw [linesT_take hkr, ← hp]
          congr 1
          unfold lineT lineS
          rw [sumS_data, sumS_data, sumS_data, ht1, hkw]
        have a1 : AddOk t ⟨#[32]⟩ := by show t.size + 1 ≤ 1000000; omega
        have a2 : AddOk (sumS t ⟨#[32]⟩) kw := by unfold AddOk; rw [sumS_size]; show t.size + 1 + kw.size ≤ 1000000; omega
        have a3 : AddOk (sumS (sumS t ⟨#[32]⟩) kw) ⟨#[10]⟩ := by unfold AddOk; rw [sumS_size, sumS_size]; show t.size + 1 + kw.size + 1 ≤ 1000000; omega
        have hls : (lineS t kw).size ≤ 33 := by unfold lineS; rw [sumS_size, sumS_size, sumS_size]; show t.size + 1 + kw.size + 1 ≤ 33; omega
        have hlk : (linesT (l.take k)).length ≤ 4000 := by
          have := linesT_le (l := l.take k) (fun p hp => by have := HOK.out.at_ p (List.mem_of_mem_take hp); omega)
          rw [List.length_take] at this
          omega
        have HIT : Hid (∀ V, Tab V → Calls Tryz.prog 43 #[.int .i64 at_] V (BRet (.string t) V)) := by
          rw [ht1]; exact Lib.hid (fun V h => itoa_calls at_ (by omega) (by omega) V h)
        have hk10 : IntKind.i64.wrap (kd - 1) = kd - 1 := IntWalk.i64_in _ (by omega)
        clear hcs hp hkw ht1 hts hks
        go_upto_region 8 with (fail)
        obtain ⟨V0, hV0, hbV, hkV, hIV, hsV⟩ : ∃ V0, V0 = wr.alloc (.cells #[.int .i64 at_, .int .i64 kd] 39) ∧ Below w.heap.size w V0 ∧ Blk V0 wr.heap.size 39 #[.int .i64 at_, .int .i64 kd] ∧ Lib.IsBuilder 72 5 G G (Lib.byteCells (linesT (l.take k))) V0 ∧ G < V0.heap.size :=
          ⟨_, rfl, hbr.alloc hbr.size _, Blk.new _ _ _, builder_below HI.out ((Below.refl _ _).alloc (Nat.le_refl _) _), by rw [World.size_alloc]; omega⟩
        rw [← hV0]
        obtain ⟨H, hH⟩ : ∃ H, H = wr.heap.size := ⟨_, rfl⟩
        rw [← hH] at hkV ⊢
        clear hV0 hH HI hbr c0 c1
        have d0 : V0.drew.cell? ⟨H, 0, none⟩ = some (.int .i64 at_) ∧ V0.drew.cell? ⟨H, 1, none⟩ = some (.int .i64 kd) := ⟨hkV.cell 0, hkV.cell 1⟩
        have hbD := below_drewN hbV 1
        have htD : Tab V0.drew := ht.below hbD
        have HKD : Hid (∀ V K, V.heap.size = K → Calls Tryz.prog 44 #[] V (fun e w' => e = .returned (.slice (some ⟨K, 0, none⟩) 9 9) ∧ Below V.heap.size V w' ∧ Blk w' K 9 (strCs kindsL))) := by
          refine Lib.hid (fun V K hK => ?_)
          rw [← hK]
          exact kinds_calls V
        have hid0 : (kd - 1).toNat < 9 := by omega
        have hid1 : 0 ≤ kd - 1 := by omega
        have hid2 : kd - 1 < 9 := by omega
        have dl0 : V0.cell? ⟨H, 0, none⟩ = some (.int .i64 at_) := hkV.cell 0
        have dl1 : V0.cell? ⟨H, 1, none⟩ = some (.int .i64 kd) := hkV.cell 1
        have hIV2 : Lib.IsBuilder 72 5 G G (Lib.byteCells (linesT (l.take k))) V0.drew := builder_below hIV (below_drewN (Below.refl _ _) 1)
        have hkn : (kd - 1).toNat = kd.toNat - 1 := by omega
        rw [hkn] at hkc
        clear d0
        go_region_law (first
          | (go_simp; go_at_call 43; ((with_reducible refine (HIT.out _ htD).mono ?_); rintro e wA ⟨rfl, hbA⟩; have dA0 := below_cell hbA dl0; have dA1 := below_cell hbA dl1; have hIA := builder_below hIV2 hbA))
          | (go_simp; go_at_call 44; ((with_reducible refine (HKD.out wA wA.heap.size rfl).mono ?_); rintro e wK ⟨rfl, hbK, hkK⟩; have dK0 := below_cell hbK dA0; have dK1 := below_cell hbK dA1; have ckK := (hkK.cell (kd.toNat - 1)).trans hkc; have hIK := builder_below hIA hbK; have hsK : G ≤ wK.heap.size := by have h1 := hbA.size; have h2 := hbK.size; have h3 : V0.drew.heap.size = V0.heap.size := rfl; omega))
          | (go_simp; go_at_call 42; ((with_reducible refine (writeString_calls G G _ (lineS t kw) wK hIK (by omega) hsK).mono ?_); rintro e wE ⟨rfl, hIE, hbE⟩)))
        all_goals
          have hbX : Below w.heap.size w wE := (hbD.trans (hbA.mono (by have h3 : V0.drew.heap.size = V0.heap.size := rfl; have := hbV.size; omega))).trans ((hbK.mono (by have h1 := hbA.size; have h3 : V0.drew.heap.size = V0.heap.size := rfl; have := hbV.size; omega)).trans (hbE.mono hGw))
          have hsX : G < wE.heap.size := by
            have h1 := hbA.size
            have h2 := hbK.size
            have h4 := hbE.size
            have h3 : V0.drew.heap.size = V0.heap.size := rfl
            omega
          have HIX : Hid (Lib.IsBuilder 72 5 G G (Lib.byteCells (linesT (l.take (k + 1)))) wE) := by
            rw [HLN.out]; exact Lib.hid hIE
          clear dA0 dA1 dK0 dK1 ckK hIK hIA hkK hIE hIV2 hkV hIV dl0 dl1 a1 a2 a3 hkc HKD HIT
          go_wp2
          go_roundw
          case rel => exact ⟨k + 1, by omega, by go_num, HIX, hbX, hsX⟩
          case measure => simp [intOf]; omega
      · obtain rfl : k = n := by omega
        have hIZ : Lib.IsBuilder 72 5 G G (Lib.byteCells (linesT l)) wr := by
          have := HI.out
          rwa [List.take_of_length_le (by rw [HL.out]; exact Nat.le_refl _)] at this
        have HLEN := Lib.hid (Tryz.Builder_Len G G _ wr hIZ)
        have HSTR := Lib.hid (Tryz.Builder_String_any G G _ wr hIZ (by omega))
        have hbl : (Lib.byteCells (linesT l)).length = (linesT l).length := Lib.byteCells_length _
        rw [hbl] at HLEN
        obtain ⟨m, hm⟩ : ∃ m, m = (linesT l).length := ⟨_, rfl⟩
        rw [← hm] at HLEN hgt
        have HLEN2 : Hid (Calls Tryz.prog 45 #[.pointer (some ⟨G, 0, none⟩)] wr fun e w' => e = .returned (.int .i64 m) ∧ wr = w') := Lib.hid (HLEN.out.mono (fun e w' h => ⟨h.1, h.2.symm⟩))
        clear HI hIZ hm HLEN hbl
        go_wp2_with (first
          | (go_at_call 45; refine HLEN2.out.mono ?_; rintro e w3 ⟨rfl, rfl⟩)
          | (go_at_call 46; refine HSTR.out.mono ?_; rintro e w4 ⟨rfl, hb4⟩))
        go_ret2
        exact HR.out _ (hbr.trans (hb4.mono hGw))
  · have HR : Hid (∀ w', Below w.heap.size w w' → TxtR l w (.returned (.tuple #[.string ⟨#[]⟩, .int .i64 (prF l)])) w') := by
      refine Lib.hid (fun w' h => ?_)
      unfold TxtR
      rw [if_neg hF]
      exact ⟨rfl, h⟩
    obtain ⟨F, hFv⟩ : ∃ F, F = prF l := ⟨_, rfl⟩
    rw [← hFv] at HCK HR hF
    have hFb : (F == 0) = false := by simpa using hF
    clear hFv hr hF
    go_enter Tryz.func9, Tryz.ntmps9
    go_wp2_with (first | (go_at_call 41; refine HCK.out.mono ?_; rintro e w1 ⟨rfl, hb1⟩))
    go_ret2
    exact HR.out _ hb1
end Go.Proofs.YticbbehfphnbhaaGreatDoor

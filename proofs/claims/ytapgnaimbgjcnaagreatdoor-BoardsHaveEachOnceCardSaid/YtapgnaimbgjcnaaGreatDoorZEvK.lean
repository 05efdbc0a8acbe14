/-
  Right events: what a list without fault says of each one. No walk.
-/
import Derived.Test.YtapgnaimbgjcnaaGreatDoorZSortMem
import Derived.Test.YtapgnaimbgjcnaaGreatDoorZBt7
import Derived.Test.YtapgnaimbgjcnaaGreatDoorZSortRun0
import Derived.Test.YtapgnaimbgjcnaaGreatDoorZEv1W
namespace Go.Proofs.YtapgnaimbgjcnaaGreatDoor
open Go Go.RowKit
theorem keyBv_sz {s : ByteArray} (h : keyBv s = true) : 0 < s.size ∧ s.size ≤ 40 := by
 unfold keyBv keyB at h
 simp only [Bool.and_eq_true, decide_eq_true_eq] at h
 have h1 := h.1.1
 have e : s.data.toList.length = s.size := by rw [Array.length_toList]; rfl
 omega
theorem eqS_of {a b : ByteArray} (h : eqS a b = true) : a = b := (eqS_iff a b).1 h
theorem bevF_ok {x : Bev} (h : bevF x = 0) : momB x.at_ = true ∧ outB x.kind 1 6 = false ∧ bevK x = false ∧ (usS x.kind && (outB x.time 1 864000000 || outB x.date 0 x.at_)) = false ∧ sameBev x (bevU x) = true := by
 unfold bevF at h
 split at h
 · rename_i h1
   split at h
   · omega
   · rename_i h2
     split at h
     · omega
     · rename_i h3
       split at h
       · omega
       · rename_i h4
         split at h
         · rename_i h5
           exact ⟨h1, by simpa using h2, by simpa using h3, by simpa using h4, h5⟩
         · omega
 · omega
theorem evK_one {x : Bev} (h : bevF x = 0) : EvK x := by
 obtain ⟨h1, h2, h3, h4, h5⟩ := bevF_ok h
 have hk : 1 ≤ x.kind ∧ x.kind ≤ 6 := by
  unfold outB at h2
  have := of_decide_eq_false h2
  omega
 unfold bevK at h3
 simp only [Bool.or_eq_false_iff, Bool.and_eq_false_iff, Bool.not_eq_false'] at h3
 obtain ⟨⟨⟨ki, kw⟩, kb⟩, kc⟩ := h3
 unfold sameBev bevU at h5
 simp only [Bool.and_eq_true] at h5
 obtain ⟨⟨⟨⟨⟨⟨⟨_, _⟩, si⟩, sw⟩, sb⟩, sc⟩, _⟩, _⟩ := h5
 have si := eqS_of si
 have sw := eqS_of sw
 have sb := eqS_of sb
 have sc := eqS_of sc
 have one : ∀ (s : ByteArray) (u : Bool), (u = false ∨ keyBv s = true) → s = (if u = true then s else noBev) → s.size ≤ 40 := by
  intro s u hu he
  rcases hu with hu | hu
  · rw [hu, if_neg (by decide)] at he
    rw [he]; decide
  · exact (keyBv_sz hu).2
 refine ⟨hk, one _ _ ki si, one _ _ kw sw, one _ _ kb sb, one _ _ kc sc, fun hw => ?_, fun hb => ?_⟩
 · have hu : usW x.kind = true := by unfold usW; exact decide_eq_true (by omega)
   rcases kw with kw | kw
   · rw [hu] at kw; cases kw
   · exact (keyBv_sz kw).1
 · have hu : usB x.kind = false := by unfold usB; exact decide_eq_false (by omega)
   rw [hu, if_neg (by decide)] at sb
   exact sb
theorem bevsG_all : ∀ (l : List Bev) (o : Option Bev), bevsG o l = 0 → ∀ x ∈ l, bevF x = 0
 | [], _, _ => by intro x hx; cases hx
 | a :: l, o, h => by
   rw [bevsG] at h
   split at h
   · rename_i ha
     split at h
     · omega
     · intro x hx
       rcases List.mem_cons.1 hx with rfl | hx
       · exact ha
       · exact bevsG_all l (some a) h x hx
   · rename_i ha; exact absurd h ha
theorem bevs_ok {l : List Bev} (h : bevsF l = 0) : (∀ x ∈ l, bevF x = 0) ∧ l.length ≤ 2000 := by
 unfold bevsF at h
 split at h
 · omega
 · exact ⟨bevsG_all l none h, by omega⟩
theorem evK_all {l : List Bev} (h : bevsF l = 0) : ∀ x ∈ l, EvK x := fun x hx => evK_one ((bevs_ok h).1 x hx)
structure BvB (x : Bev) : Prop where
 t0 : 1 ≤ x.time
 t1 : x.time ≤ 864000000
 d0 : 0 ≤ x.date
 d1 : x.date ≤ x.at_
 a1 : x.at_ ≤ 345686399999
theorem bvB_one {x : Bev} (h : bevF x = 0) (hk : x.kind = 1) : BvB x := by
 obtain ⟨h1, _, _, h4, _⟩ := bevF_ok h
 have hu : usS x.kind = true := by unfold usS; exact decide_eq_true hk
 rw [hu, Bool.true_and, Bool.or_eq_false_iff] at h4
 unfold momB outB at h1
 unfold outB at h4
 have a := of_decide_eq_false h4.1
 have b := of_decide_eq_false h4.2
 have c : decide (x.at_ < 0 ∨ 345686399999 < x.at_) = false := by simpa using h1
 have c := of_decide_eq_false c
 exact ⟨by omega, by omega, by omega, by omega, by omega⟩
theorem stpE_in {D D' : Dsk} {x : Bev} (hs : stpE D x = some D') : ∀ r ∈ D'.rn, (∃ q ∈ D.rn, q.1 = r.1) ∨ (r.1 = x ∧ x.kind = 1) := by
 unfold stpE at hs
 split at hs
 · cases hs
 · split at hs
   · rename_i hk
     split at hs
     · cases hs
     · injection hs with hs
       subst hs
       intro r hr
       have hr : r ∈ D.rn ++ [(x, 0)] := hr
       rcases List.mem_append.1 hr with hr | hr
       · exact .inl ⟨r, hr, rfl⟩
       · simp at hr
         subst hr
         exact .inr ⟨rfl, hk⟩
   · split at hs
     · split at hs
       · cases hs
       · injection hs with hs
         subst hs
         intro r hr
         exact .inl ⟨r, hr, rfl⟩
     · split at hs
       · cases hs
       · split at hs
         · cases hs
         · injection hs with hs
           subst hs
           intro r hr
           obtain ⟨q, hq, rfl⟩ := List.mem_map.1 hr
           refine .inl ⟨q, hq, ?_⟩
           split <;> rfl
theorem fol_in (l : List Bev) (u : Int) : ∀ k, k ≤ l.length → ∀ r ∈ (folE (l.take k) u).1.rn, r.1 ∈ l ∧ r.1.kind = 1
 | 0, _ => by rw [List.take_zero]; intro r hr; cases hr
 | k + 1, hk => by
   rw [folE_step l u k (by omega)]
   have ih := fol_in l u k (by omega)
   by_cases hu : (l[k]).at_ ≤ u
   · cases hs : stpE (folE (l.take k) u).1 l[k] with
     | none => rw [accE_none hu hs]; exact ih
     | some D =>
       rw [accE_some hu hs]
       intro r hr
       rcases stpE_in hs r hr with ⟨q, hq, e⟩ | ⟨e, hk1⟩
       · rw [← e]; exact ih q hq
       · rw [e]; exact ⟨List.getElem_mem _, hk1⟩
   · rw [accE_late hu]; exact ih
theorem fol_bd {l : List Bev} (h : ∀ x ∈ l, bevF x = 0) (u : Int) : ∀ r ∈ (folE l u).1.rn, BvB r.1 := by
 intro r hr
 have h1 := fol_in l u l.length (Nat.le_refl _) r (by rw [List.take_length]; exact hr)
 exact bvB_one (h _ h1.1) h1.2
end Go.Proofs.YtapgnaimbgjcnaaGreatDoor
/-
  board.Board, board.Place and board.Would by contracts.
-/
namespace Go.Proofs.YtapgnaimbgjcnaaGreatDoor
open Go Go.RowKit Go.Sort
attribute [local go_sem ↓] Go.wp_at_zero Go.wp_at_succ
theorem catF_ok {l : List Bev} {ks : List ByteArray} {u : Int} (h : catF l ks u = 0) : bevsF l = 0 := by
 unfold catF at h
 split at h
 · assumption
 · rename_i h2; exact absurd h h2
set_option maxRecDepth 100000 in
set_option maxHeartbeats 4000000 in
theorem rowsAt_calls (b : Nat) (A : Option Addr) (n c : Nat) (l : List Bev) (u : Int) (cat : ByteArray) (w : World) (hr : Rd w b 8 (.slice A n c) n (l.flatMap bevC)) (hk : ∀ x ∈ l, EvK x) (hn : n ≤ 3000) :
 Calls Tryz.prog 76 #[.slice A n c, .int .i64 u] w (fun e w' => ∃ gd : Nat, e = .returned (.pointer (some ⟨gd, 0, none⟩)) ∧ Below w.heap.size w w' ∧ Calls Tryz.prog 78 #[.pointer (some ⟨gd, 0, none⟩), .string cat] w' (fun e2 w2 => ∃ (A : Option Addr) (c : Nat) (ys : List Bev), SbdR (folE l u).1 cat ys ∧ e2 = .returned (.slice A (rowsB ys).length c) ∧ Sq w w2 [rOwn w.heap.size 80 5 (.slice A (rowsB ys).length c) (rowsB ys).length ((rowsB ys).flatMap brwC)])) := by
 obtain ⟨hl, _, _, _⟩ := hr.cells bevC_len (by omega)
 have hz : (folE l u).1.rn.length ≤ 3000 := by
  have h := (fol_cnt l u l.length (Nat.le_refl _)).1
  rw [List.take_length] at h
  omega
 refine (atD_calls b A n c l u w hr hk hn).mono ?_
 rintro e w2 ⟨gd, m1, m2, n1, n2, L, rfl, h1, h2, h3, h4, h5⟩
 refine ⟨gd, rfl, h5.below, ?_⟩
 refine (rowsD_calls gd m1 m2 n1 n2 L _ cat w w2 h2 h1 hz h5).mono ?_
 rintro e w3 ⟨A, c, ys, hY, rfl, hS⟩
 unfold dskL at hS
 exact ⟨A, c, ys, hY, rfl, (((hS.drop 4 rfl rfl).drop 3 rfl rfl).drop 2 rfl rfl).drop 1 rfl rfl⟩
def RwIs (l : List Bev) (cat : ByteArray) (u F : Int) (rs : List Brw) : Prop := (F = 0 → ∃ ys, SbdR (folE l u).1 cat ys ∧ rs = rowsB ys) ∧ (F ≠ 0 → rs = [])
theorem rwIs_no {l : List Bev} {cat : ByteArray} {u F : Int} (h : F ≠ 0) : RwIs l cat u F [] := ⟨fun h2 => absurd h2 h, fun _ => rfl⟩
theorem rwIs_ok {l : List Bev} {cat : ByteArray} {u : Int} {ys : List Bev} (h : SbdR (folE l u).1 cat ys) : RwIs l cat u 0 (rowsB ys) := ⟨fun _ => ⟨ys, h, rfl⟩, fun h => absurd rfl h⟩
def BrdR (l : List Bev) (cat : ByteArray) (u F : Int) (w : World) (e : Ending) (w' : World) : Prop :=
 ∃ (A : Option Addr) (c : Nat) (rs : List Brw), RwIs l cat u F rs ∧ e = .returned (.tuple #[.slice A rs.length c, .int .i64 F]) ∧ Sq w w' [rOwn w.heap.size 80 5 (.slice A rs.length c) rs.length (rs.flatMap brwC)]
set_option maxRecDepth 100000 in
set_option maxHeartbeats 4000000 in
theorem board_calls (b : Nat) (A : Option Addr) (n c : Nat) (l : List Bev) (u : Int) (cat : ByteArray) (w : World) (hb : b < w.heap.size) (hr : Bevs w b A n c l) (hn : n ≤ 3000) (hc : cat.size ≤ 1000000) :
 Calls Tryz.prog 41 #[.slice A n c, .string cat, .int .i64 u] w (BrdR l cat u (catF l [cat] u) w) := by
 have hS0 := (Sq.start w).add #[.string cat] 9
 have hrl := blkRd (b := b) 1 1 (hS0.head : Blk _ w.heap.size _ _) (by omega) (by unfold maxLen; omega) rfl
 have HC := Lib.hid (categoryFault_calls b A (some ⟨w.heap.size, 0, none⟩) n c 1 1 l [cat] u _ (hr.below hS0.below) hrl (by intro s hs; simp at hs; subst hs; exact hc))
 have HS0 := Lib.hid hS0
 have HR := Lib.hid hr.rd
 obtain ⟨F, hF⟩ : ∃ F, catF l [cat] u = F := ⟨_, rfl⟩
 rw [hF] at HC ⊢
 have HE : Hid (F = 0 → ∀ x ∈ l, EvK x) := Lib.hid (fun h => evK_all (catF_ok (hF.trans h)))
 clear hr hS0 hrl hc hF
 by_cases h0 : F = 0
 · subst h0
   have HE0 := Lib.hid (HE.out rfl)
   clear HE
   go_enter Tryz.func41, Tryz.ntmps41
   go_wp2_with fail
   refine HC.out.mono ?_
   rintro e w1 ⟨rfl, hb1⟩
   have hS1 := HS0.out.callB hb1
   have HRA := Lib.hid (rowsAt_calls b A n c l u cat w1 (hS1.rd HR.out) HE0.out hn)
   have HS1 := Lib.hid hS1.bare
   clear hS1 hb1 HC HS0
   go_wp2_with fail
   refine HRA.out.mono ?_
   rintro e w2 ⟨gd, rfl, hb2, hcall⟩
   have HCL := Lib.hid hcall
   clear hcall hb2
   go_wp2_with fail
   refine HCL.out.mono ?_
   rintro e w3 ⟨A3, c3, ys, hY, rfl, hS3⟩
   have HF : Hid (BrdR l cat u 0 w (.returned (.tuple #[.slice A3 (rowsB ys).length c3, .int .i64 0])) w3) := Lib.hid ⟨A3, c3, rowsB ys, rwIs_ok hY, rfl, (HS1.out.merge hS3).rebase HS1.out.size⟩
   obtain ⟨q, hq⟩ : ∃ q, (rowsB ys).length = q := ⟨_, rfl⟩
   rw [hq] at HF ⊢
   clear hS3 hY hq HCL HRA HS1
   go_wp2_with fail
   go_ret2
   exact HF.out
 · have hne : (F != 0) = true := by rw [bne_iff_ne]; exact h0
   go_enter Tryz.func41, Tryz.ntmps41
   go_wp2_with fail
   refine HC.out.mono ?_
   rintro e w1 ⟨rfl, hb1⟩
   have HF : Hid (BrdR l cat u F w (.returned (.tuple #[.slice none 0 0, .int .i64 F])) w1) := Lib.hid ⟨none, 0, [], rwIs_no h0, rfl, ((HS0.out.callB hb1).bare).nil _ _ _⟩
   clear HC HS0 hb1
   go_wp2_with fail
   go_ret2
   exact HF.out
theorem sbd_len {l : List Bev} {u : Int} {cat : ByteArray} {ys : List Bev} (h : SbdR (folE l u).1 cat ys) : ys.length ≤ l.length := by
 have h1 := (fol_cnt l u l.length (Nat.le_refl _)).1
 rw [List.take_length] at h1
 have h2 := h.1.length_eq
 have h3 : (brd (folE l u).1 cat).length ≤ (folE l u).1.rn.length := by unfold brd; rw [List.length_map]; exact List.length_filter_le _ _
 omega
theorem rows_len (ys : List Bev) : (rowsB ys).length ≤ ys.length := by
 unfold rowsB
 rw [List.length_map]
 exact (bstW_sub ys).length_le
def plcV : Option Brw → Value
 | some r => .agg (brwC r).toArray
 | none => .agg #[.int .i64 0, .int .i64 0, .string ⟨#[]⟩, .string ⟨#[]⟩, .int .i64 0]
theorem plc_step (rs : List Brw) (k : Nat) (hk : k < rs.length) (who : ByteArray) (h : plcB (rs.take k) who = none) : plcB (rs.take (k + 1)) who = if (rs[k].who.toList == who.toList) = true then some rs[k] else none := by
 unfold plcB at h ⊢
 rw [List.take_succ_eq_append_getElem hk, List.find?_append, h, eqS_decB]
 by_cases e : rs[k].who = who
 · simp [e]
 · simp [e]
theorem plc_at (rs : List Brw) (k : Nat) (hk : k < rs.length) (who : ByteArray) (h : plcB (rs.take k) who = none) (he : (rs[k].who.toList == who.toList) = true) : plcB rs who = some rs[k] := by
 have h1 := plc_step rs k hk who h
 rw [if_pos he] at h1
 unfold plcB at h1 ⊢
 have e2 : (rs.take (k + 1) ++ rs.drop (k + 1)).find? (fun r => decide (r.who = who)) = _ := List.find?_append
 rw [List.take_append_drop, h1] at e2
 exact e2
theorem place_res {tmps : Array Value} {W : World} {g : Nat} {v0 v1 v2 v3 v4 : Value} (h8 : tmps.getD 8 undef = .pointer (some ⟨g, 0, none⟩)) (hb : Blk W g 80 #[v0, v1, v2, v3, v4]) :
 (results Tryz.f40 tmps).run Tryz.prog W = .ok (.tuple #[.agg #[v0, v1, v2, v3, v4], tmps.getD 9 undef, tmps.getD 10 undef]) W := by
 have c0 := hb.cell 0
 have c1 := hb.cell 1
 have c2 := hb.cell 2
 have c3 := hb.cell 3
 have c4 := hb.cell 4
 clear hb
 rw [Array.getD_eq_getD_getElem?] at h8
 simp [results, Tryz.results40, go_sem, h8, c0, c1, c2, c3, c4]
def PlcR (l : List Bev) (cat who : ByteArray) (u F : Int) (w : World) (e : Ending) (w' : World) : Prop :=
 ∃ rs : List Brw, RwIs l cat u F rs ∧ e = .returned (.tuple #[plcV (plcB rs who), .bool (plcB rs who).isSome, .int .i64 F]) ∧ Below w.heap.size w w'
set_option maxRecDepth 100000 in
set_option maxHeartbeats 4000000 in
theorem place_calls (b : Nat) (A : Option Addr) (n c : Nat) (l : List Bev) (u : Int) (cat who : ByteArray) (w : World) (hb : b < w.heap.size) (hr : Bevs w b A n c l) (hn : n ≤ 3000) (hc : cat.size ≤ 1000000) (hw : who.size ≤ 1000000) :
 Calls Tryz.prog 40 #[.slice A n c, .string cat, .string who, .int .i64 u] w (PlcR l cat who u (catF l [cat, who] u) w) := by
 obtain ⟨g8, hg8⟩ : ∃ z, z = w.heap.size := ⟨_, rfl⟩
 obtain ⟨W0, hW0, hS0⟩ : ∃ W, W = (w.alloc (.cells #[.int .i64 0, .int .i64 0, .string ⟨#[]⟩, .string ⟨#[]⟩, .int .i64 0] 80)).alloc (.cells #[.string cat, .string who] 9) ∧ Sq w W (rBlk (g8 + 1) 9 #[.string cat, .string who] :: [rBlk g8 80 #[.int .i64 0, .int .i64 0, .string ⟨#[]⟩, .string ⟨#[]⟩, .int .i64 0]]) := ⟨_, rfl, by
  have h := ((Sq.start w).add #[.int .i64 0, .int .i64 0, .string ⟨#[]⟩, .string ⟨#[]⟩, .int .i64 0] 80).add #[.string cat, .string who] 9
  rw [World.size_alloc, ← hg8] at h
  exact h⟩
 have hrl := blkRd (b := b) 1 2 (hS0.head : Blk _ (g8 + 1) _ _) (by omega) (by unfold maxLen; omega) rfl
 have HC := Lib.hid (categoryFault_calls b A (some ⟨g8 + 1, 0, none⟩) n c 2 2 l [cat, who] u W0 (hr.below hS0.below) hrl (by intro s hs; simp at hs; rcases hs with rfl | rfl <;> assumption))
 have HS0 := Lib.hid hS0
 have HR := Lib.hid hr.rd
 obtain ⟨hl, _, _, _⟩ := hr.rd.cells bevC_len (by omega)
 have HL : Hid (l.length ≤ 3000) := Lib.hid (by omega)
 clear hl
 obtain ⟨F, hF⟩ : ∃ F, catF l [cat, who] u = F := ⟨_, rfl⟩
 rw [hF] at HC ⊢
 have HE : Hid (F = 0 → ∀ x ∈ l, EvK x) := Lib.hid (fun h => evK_all (catF_ok (hF.trans h)))
 clear hr hS0 hrl hc hw hF
 by_cases h0 : F = 0
 · subst h0
   have HE0 := Lib.hid (HE.out rfl)
   clear HE
   go_enter Tryz.func40, Tryz.ntmps40
   go_wp2_with fail
   rw [← hg8, ← hW0]
   clear hg8 hW0
   refine HC.out.mono ?_
   rintro e w1 ⟨rfl, hb1⟩
   have hS1 := (HS0.out.callB hb1).drop 0 rfl rfl
   have HRA := Lib.hid (rowsAt_calls b A n c l u cat w1 (hS1.rd HR.out) HE0.out hn)
   have HS1 := Lib.hid hS1
   clear hS1 hb1 HC HS0
   go_wp2_with fail
   refine HRA.out.mono ?_
   rintro e w2 ⟨gd, rfl, hb2, hcall⟩
   have HCL := Lib.hid hcall
   clear hcall hb2
   go_wp2_with fail
   refine HCL.out.mono ?_
   rintro e w3 ⟨A3, c3, ys, hY, rfl, hS3⟩
   have HRW := Lib.hid (rwIs_ok hY)
   obtain ⟨rs, hrs⟩ : ∃ rs, rowsB ys = rs := ⟨_, rfl⟩
   rw [hrs] at HRW hS3 ⊢
   have hS4 := (HS1.out.merge hS3).rebase HS1.out.size
   obtain ⟨q, hq⟩ : ∃ q, rs.length = q := ⟨_, rfl⟩
   rw [hq] at hS4 ⊢
   have HQ := Lib.hid hq
   have HAP : Hid (0 < q → ∃ g, A3 = some ⟨g, 0, none⟩) := Lib.hid (fun h0 => own_ptr (hS4.head : World.ownsRow _ _ _ _ _ _ _) h0)
   have HQZ : Hid (q ≤ 3000) := Lib.hid (by have := HL.out; have := sbd_len hY; have := rows_len ys; rw [hrs] at this; omega)
   clear hS3 hY hq hrs HCL HRA HS1
   go_wp2_with fail
   go_loopw [30] (fun s30 wr => ∃ k : Nat, k ≤ q ∧ s30 = .int .i64 k ∧ Hid (plcB (rs.take k) who = none) ∧ Sq w wr ([rOwn w.heap.size 80 5 (.slice A3 q c3) q (rs.flatMap brwC)] ++ [rBlk g8 80 #[.int .i64 0, .int .i64 0, .string ⟨#[]⟩, .string ⟨#[]⟩, .int .i64 0]])) (fun s30 _ => q - (intOf s30).toNat)
   case atStart => exact ⟨0, Nat.zero_le _, rfl, Lib.hid rfl, hS4⟩
   case round =>
    clear hS4
    obtain ⟨k, hk, rfl, HP, hS⟩ := hrel
    obtain ⟨wo, hwo⟩ : ∃ z, z = wr := ⟨_, rfl⟩
    subst hwo
    have hqz := HQZ.out
    by_cases hlt : k < q
    · obtain ⟨g, hg⟩ := HAP.out (by omega)
      subst hg
      have hkp : k < rs.length := by rw [HQ.out]; exact hlt
      obtain ⟨a0, a1, a2, a3, a4⟩ := rw_cells (hS.head : World.ownsRow _ _ _ _ _ _ _) k hkp hlt
      have HST := Lib.hid (plc_step rs k hkp who HP.out)
      have HAT := Lib.hid (plc_at rs k hkp who HP.out)
      obtain ⟨⟨xr, xt, xi, xw, xd⟩, hx⟩ : ∃ x, rs[k] = x := ⟨_, rfl⟩
      rw [hx] at a0 a1 a2 a3 a4 HST HAT
      simp only at a0 a1 a2 a3 a4 HST HAT
      have hSE := hS.add #[.int .i64 xr, .int .i64 xt, .string xi, .string xw, .int .i64 xd] 80
      have hk0 : (0 : Int) ≤ (k : Int) := by omega
      have hk2 : (k : Int) < (q : Int) := by omega
      obtain ⟨B, hB⟩ : ∃ B, (xw.toList == who.toList) = B := ⟨_, rfl⟩
      rw [hB] at HST HAT
      cases B
      · rw [if_neg (by decide)] at HST
        have hS5 := hSE.drop 0 rfl rfl
        clear hS hSE hkp hx
        go_wp2_with fail
        go_roundw
        case rel => exact ⟨k + 1, by omega, by go_num, HST, hS5⟩
        case measure => simp [intOf]; omega
      · have HAT2 := Lib.hid (HAT.out rfl)
        have hb8 := (hSE.nth 2 rfl : Blk _ g8 _ _)
        have e0 := hb8.cell 0
        have e1 := hb8.cell 1
        have e2 := hb8.cell 2
        have e3 := hb8.cell 3
        have e4 := hb8.cell 4
        have f0 := hb8.frozen 0
        have f1 := hb8.frozen 1
        have f2 := hb8.frozen 2
        have f3 := hb8.frozen 3
        have f4 := hb8.frozen 4
        have HSE := Lib.hid hSE
        have hne : g8 ≠ wo.heap.size := by have := (hS.nth 1 rfl : Blk _ g8 _ _).lt; omega
        clear hS hSE hkp hx hb8 HAT
        go_wp2_with fail
        have hSF := (((((HSE.out.front 2 rfl rfl).set_ 0 (.int .i64 xr)).set_ 1 (.int .i64 xt)).set_ 2 (.string xi)).set_ 3 (.string xw)).set_ 4 (.int .i64 xd)
        refine bodyPost_ret (place_res rfl hSF.head) rfl ⟨rs, HRW.out, ?_, hSF.below⟩
        rw [HAT2.out]
        rfl
    · obtain rfl : k = q := by omega
      have HN : Hid (plcB rs who = none) := Lib.hid (by
       have h := HP.out
       rwa [List.take_of_length_le (by rw [HQ.out]; exact Nat.le_refl _)] at h)
      have HSE := Lib.hid hS
      have hb8 := (hS.nth 1 rfl : Blk _ g8 _ _)
      have e0 := hb8.cell 0
      have e1 := hb8.cell 1
      have e2 := hb8.cell 2
      have e3 := hb8.cell 3
      have e4 := hb8.cell 4
      have f0 := hb8.frozen 0
      have f1 := hb8.frozen 1
      have f2 := hb8.frozen 2
      have f3 := hb8.frozen 3
      have f4 := hb8.frozen 4
      clear hS HP hb8
      go_wp2_with fail
      have hSF := (((((HSE.out.front 1 rfl rfl).set_ 0 (.int .i64 0)).set_ 1 (.int .i64 0)).set_ 2 (.string ⟨#[]⟩)).set_ 3 (.string ⟨#[]⟩)).set_ 4 (.int .i64 0)
      refine bodyPost_ret (place_res rfl hSF.head) rfl ⟨rs, HRW.out, ?_, hSF.below⟩
      rw [HN.out]
      rfl
 · have hne : (F != 0) = true := by rw [bne_iff_ne]; exact h0
   go_enter Tryz.func40, Tryz.ntmps40
   go_wp2_with fail
   rw [← hg8, ← hW0]
   clear hg8 hW0
   refine HC.out.mono ?_
   rintro e w1 ⟨rfl, hb1⟩
   have HSE := Lib.hid (HS0.out.callB hb1)
   have hb8 := (HSE.out.nth 1 rfl : Blk _ g8 _ _)
   have e0 := hb8.cell 0
   have e1 := hb8.cell 1
   have e2 := hb8.cell 2
   have e3 := hb8.cell 3
   have e4 := hb8.cell 4
   have f0 := hb8.frozen 0
   have f1 := hb8.frozen 1
   have f2 := hb8.frozen 2
   have f3 := hb8.frozen 3
   have f4 := hb8.frozen 4
   clear HC HS0 hb1 hb8
   go_wp2_with fail
   have hSF := (((((HSE.out.front 1 rfl rfl).set_ 0 (.int .i64 0)).set_ 1 (.int .i64 0)).set_ 2 (.string ⟨#[]⟩)).set_ 3 (.string ⟨#[]⟩)).set_ 4 (.int .i64 0)
   exact bodyPost_ret (place_res rfl hSF.head) rfl ⟨[], rwIs_no h0, rfl, hSF.below⟩
end Go.Proofs.YtapgnaimbgjcnaaGreatDoor

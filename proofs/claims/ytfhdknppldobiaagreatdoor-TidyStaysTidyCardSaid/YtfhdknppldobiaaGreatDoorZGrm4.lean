/-
  What Tidy makes of a rule that is put together of parts: the same tree, again such a rule, and no longer one. No Go text is named here.
-/
import Derived.Test.YtfhdknppldobiaaGreatDoorZNumF
import Derived.Test.YtfhdknppldobiaaGreatDoorZRstP
namespace Go.Proofs.YtfhdknppldobiaaGreatDoor
open Go Go.RowKit TxtP

/-- in marks, where a NOT asks for them, or an AND does -/
def facX : Rx → Rx
  | .andC f a => .par (.andC f a)
  | .orC a o => .par (.orC a o)
  | .atom a => .atom a
  | .not a => .not a
  | .par a => .par a
def alvX : Rx → Rx
  | .orC a o => .par (.orC a o)
  | .andC f a => .andC f a
  | .atom a => .atom a
  | .not a => .not a
  | .par a => .par a
def tidX : Rx → Rx
  | .atom a => .atom a
  | .not f => .not (facX (tidX f))
  | .par o => tidX o
  | .andC f a => andA (alvX (tidX f)) (alvX (tidX a))
  | .orC a o => orO (tidX a) (tidX o)
def strX : Rx → List UInt8
  | .atom a => (txtA a).data.toList
  | .not f => [110, 111, 116, 32] ++ strX f
  | .par o => [40] ++ strX o ++ [41]
  | .andC f a => strX f ++ sepAnd ++ strX a
  | .orC a o => strX a ++ sepOr ++ strX o
theorem fac_lv {x : Rx} (h : LvX 2 x) : LvX 0 (facX x) := by
  cases h with
  | oneO h0 =>
    cases h0 with
    | oneA h0 =>
      cases h0 with
      | atom a => exact .atom a
      | not h => exact .not h
      | par h => exact .par h
    | andC h1 h2 => exact .par (.oneO (.andC h1 h2))
  | orC h1 h2 => exact .par (.orC h1 h2)
theorem alv_lv {x : Rx} (h : LvX 2 x) : LvX 1 (alvX x) := by
  cases h with
  | oneO h0 =>
    cases h0 with
    | oneA h0 =>
      cases h0 with
      | atom a => exact .oneA (.atom a)
      | not h => exact .oneA (.not h)
      | par h => exact .oneA (.par h)
    | andC h1 h2 => exact .andC h1 h2
  | orC h1 h2 => exact .oneA (.par (.orC h1 h2))
theorem tid_lv : ∀ x, LvX 2 (tidX x)
  | .atom a => .oneO (.oneA (.atom a))
  | .not f => .oneO (.oneA (.not (fac_lv (tid_lv f))))
  | .par o => tid_lv o
  | .andC f a => .oneO (LvX.andA (alv_lv (tid_lv f)) rfl (alv_lv (tid_lv a)))
  | .orC a o => LvX.orO (tid_lv a) rfl (tid_lv o)
theorem ats_fac : ∀ x, atsX (facX x) = atsX x
  | .atom _ => rfl
  | .not _ => rfl
  | .par _ => rfl
  | .andC _ _ => rfl
  | .orC _ _ => rfl
theorem ats_alv : ∀ x, atsX (alvX x) = atsX x
  | .atom _ => rfl
  | .not _ => rfl
  | .par _ => rfl
  | .andC _ _ => rfl
  | .orC _ _ => rfl
theorem ats_tid : ∀ x, atsX (tidX x) = atsX x
  | .atom _ => rfl
  | .not f => by rw [tidX, atsX, atsX, ats_fac, ats_tid f]
  | .par o => by rw [tidX, atsX, ats_tid o]
  | .andC f a => by rw [tidX, ats_andA, ats_alv, ats_alv, ats_tid f, ats_tid a, atsX]
  | .orC f a => by rw [tidX, ats_orO, ats_tid f, ats_tid a, atsX]
theorem tree_fac : ∀ x, treeX (facX x) = treeX x
  | .atom _ => rfl
  | .not _ => rfl
  | .par _ => rfl
  | .andC _ _ => rfl
  | .orC _ _ => rfl
theorem tree_alv : ∀ x, treeX (alvX x) = treeX x
  | .atom _ => rfl
  | .not _ => rfl
  | .par _ => rfl
  | .andC _ _ => rfl
  | .orC _ _ => rfl
theorem tree_andA (y : Rx) : ∀ x, treeX (andA x y) = .node sAnd noB (splQ sAnd (treeX x) ++ splQ sAnd (treeX y))
  | .andC f a => by rw [andA, treeX, tree_andA y a, spl_list, treeX, spl_list, List.append_assoc]
  | .atom _ => rfl
  | .not _ => rfl
  | .par _ => rfl
  | .orC _ _ => rfl
theorem tree_orO (y : Rx) : ∀ x, treeX (orO x y) = .node sOr noB (splQ sOr (treeX x) ++ splQ sOr (treeX y))
  | .orC f a => by rw [orO, treeX, tree_orO y a, spl_list, treeX, spl_list, List.append_assoc]
  | .atom _ => rfl
  | .not _ => rfl
  | .par _ => rfl
  | .andC _ _ => rfl
theorem tree_tid : ∀ x, treeX (tidX x) = treeX x
  | .atom _ => rfl
  | .not f => by rw [tidX, treeX, treeX, tree_fac, tree_tid f]
  | .par o => by rw [tidX, treeX, tree_tid o]
  | .andC f a => by rw [tidX, tree_andA, tree_alv, tree_alv, tree_tid f, tree_tid a, treeX]
  | .orC f a => by rw [tidX, tree_orO, tree_tid f, tree_tid a, treeX]
/-- Tidy leaves no marks around the whole -/
theorem tid_nopar : ∀ x o, tidX x ≠ .par o
  | .atom _, _ => fun h => by cases h
  | .not _, _ => fun h => by cases h
  | .par x, o => by rw [tidX]; exact tid_nopar x o
  | .andC f a, o => by
    rw [tidX]
    cases alvX (tidX f) <;> (intro h; cases h)
  | .orC f a, o => by
    rw [tidX]
    cases tidX f <;> (intro h; cases h)
theorem str_andA (y : Rx) : ∀ x, strX (andA x y) = strX x ++ sepAnd ++ strX y
  | .andC f a => by rw [andA, strX, str_andA y a, strX]; simp
  | .atom _ => rfl
  | .not _ => rfl
  | .par _ => rfl
  | .orC _ _ => rfl
theorem str_orO (y : Rx) : ∀ x, strX (orO x y) = strX x ++ sepOr ++ strX y
  | .orC f a => by rw [orO, strX, str_orO y a, strX]; simp
  | .atom _ => rfl
  | .not _ => rfl
  | .par _ => rfl
  | .andC _ _ => rfl
theorem parB_data (x : ByteArray) : (parB x).data.toList = [40] ++ x.data.toList ++ [41] := by unfold parB; rw [dat_app, dat_app]
theorem partQ_id {op : ByteArray} {k : Nq} {x : ByteArray} (h1 : k.op ≠ sOr) (h2 : k.op ≠ sAnd ∨ op ≠ sNot) : partQ op k x = x := by
  unfold partQ parIf
  rw [decide_eq_false h1, Bool.false_or]
  rcases h2 with h | h <;> simp [h]
theorem partQ_par {op : ByteArray} {k : Nq} {x : ByteArray} (h : k.op = sOr ∨ (k.op = sAnd ∧ op = sNot)) : partQ op k x = parB x := by
  unfold partQ parIf
  rcases h with h | ⟨h, h2⟩
  · simp [h]
  · simp [h, h2]
/-- a kid's part of a list's text -/
def joQ (op : ByteArray) (sep : List UInt8) (t : Nq) : List UInt8 := Lib.join (((splQ op t).map fun k => partQ op k (txtQ k)).map (·.data.toList)) sep
theorem txt_list (op : ByteArray) (hop : op = sOr ∨ op = sAnd) (sep : List UInt8) (hs : sep = [32] ++ op.data.toList ++ [32]) (ks : List Nq) : (txtQ (.node op noB ks)).data.toList = Lib.join ((ks.map fun k => partQ op k (txtQ k)).map (·.data.toList)) sep := by
  have h1 : op ≠ noB ∧ op ≠ sNot := by rcases hop with rfl | rfl <;> decide
  rw [txtQ_eq, if_neg h1.1, if_neg h1.2, ← hs]
  unfold joinB
  simp
theorem txt_two (op : ByteArray) (hop : op = sOr ∨ op = sAnd) (sep : List UInt8) (hs : sep = [32] ++ op.data.toList ++ [32]) {t1 t2 : Nq} (h1 : FOk t1) (h2 : FOk t2) : (txtQ (.node op noB (splQ op t1 ++ splQ op t2))).data.toList = joQ op sep t1 ++ sep ++ joQ op sep t2 := by
  rw [txt_list op hop sep hs, List.map_append, List.map_append, join_app]
  · rfl
  · have := h1.spl hop
    intro e
    have e := congrArg List.length e
    simp at e
    rw [e] at this
    simp at this
  · have := h2.spl hop
    intro e
    have e := congrArg List.length e
    simp at e
    rw [e] at this
    simp at this
theorem jo_in (op : ByteArray) (hop : op = sOr ∨ op = sAnd) (sep : List UInt8) (hs : sep = [32] ++ op.data.toList ++ [32]) {t : Nq} (ht : FOk t) (h : t.op = op) : joQ op sep t = (txtQ t).data.toList := by
  obtain ⟨_, h2⟩ := ht (by rw [h]; exact hop)
  rw [h] at h2
  rw [h2, txt_list op hop sep hs]
  unfold joQ
  rw [spl_list]
theorem jo_out (op : ByteArray) (sep : List UInt8) {t : Nq} (h : t.op ≠ op) : joQ op sep t = (partQ op t (txtQ t)).data.toList := by
  unfold joQ splQ
  rw [if_neg h]
  exact Lib.join_one ..
theorem op_aO (a : Atm) : (treeX (.atom a)).op ≠ sOr := by show noB ≠ sOr; decide
theorem op_aA (a : Atm) : (treeX (.atom a)).op ≠ sAnd := by show noB ≠ sAnd; decide
theorem op_nO (a : Rx) : (treeX (.not a)).op ≠ sOr := by show sNot ≠ sOr; decide
theorem op_nA (a : Rx) : (treeX (.not a)).op ≠ sAnd := by show sNot ≠ sAnd; decide
/-- the tidy text -/
theorem txt_tid : ∀ x, (txtQ (treeX x)).data.toList = strX (tidX x)
  | .atom a => by rw [treeX, txtQ_eq, if_pos rfl]; rfl
  | .not f => by
    have ih := txt_tid f
    have ht := tree_tid f
    have hn := tid_nopar f
    have e : txtQ (.node sNot noB [treeX f]) = notT ++ partQ sNot (treeX f) (txtQ (treeX f)) := by rw [txtQ_eq, if_neg (by decide), if_pos rfl]; rfl
    rw [treeX, e, dat_app, tidX, strX]
    show [110, 111, 116, 32] ++ _ = _
    congr 1
    generalize tidX f = y at ih ht hn ⊢
    rw [← ht] at ih ⊢
    cases y with
    | atom a => rw [partQ_id (op_aO _) (.inl (op_aA _)), ih]; rfl
    | not a => rw [partQ_id (op_nO _) (.inl (op_nA _)), ih]; rfl
    | par a => exact absurd rfl (hn a)
    | andC a b => rw [partQ_par (.inr ⟨rfl, rfl⟩), parB_data, ih]; rfl
    | orC a b => rw [partQ_par (.inl rfl), parB_data, ih]; rfl
  | .par o => by rw [treeX, tidX]; exact txt_tid o
  | .andC f a => by
    have jo : ∀ z, joQ sAnd sepAnd (treeX z) = strX (alvX (tidX z)) ∨ ¬ (txtQ (treeX z)).data.toList = strX (tidX z) := fun z => by
      by_cases ih : (txtQ (treeX z)).data.toList = strX (tidX z)
      · left
        have ht := tree_tid z
        have hn := tid_nopar z
        have hf := (tree_ok z).fok
        generalize tidX z = y at ih ht hn ⊢
        rw [← ht] at ih hf ⊢
        cases y with
        | atom a => rw [jo_out _ _ (op_aA _), partQ_id (op_aO _) (.inl (op_aA _)), ih]; rfl
        | not a => rw [jo_out _ _ (op_nA _), partQ_id (op_nO _) (.inl (op_nA _)), ih]; rfl
        | par a => exact absurd rfl (hn a)
        | andC a b => rw [jo_in sAnd (.inr rfl) sepAnd rfl hf rfl, ih]; rfl
        | orC a b => rw [jo_out _ _ (by show sOr ≠ sAnd; decide), partQ_par (.inl rfl), parB_data, ih]; rfl
      · exact .inr ih
    have j1 := (jo f).resolve_right (fun h => h (txt_tid f))
    have j2 := (jo a).resolve_right (fun h => h (txt_tid a))
    rw [treeX, txt_two sAnd (.inr rfl) sepAnd rfl (tree_ok f).fok (tree_ok a).fok, j1, j2, tidX, str_andA]
  | .orC f a => by
    have jo : ∀ z, joQ sOr sepOr (treeX z) = strX (tidX z) ∨ ¬ (txtQ (treeX z)).data.toList = strX (tidX z) := fun z => by
      by_cases ih : (txtQ (treeX z)).data.toList = strX (tidX z)
      · left
        have ht := tree_tid z
        have hn := tid_nopar z
        have hf := (tree_ok z).fok
        generalize tidX z = y at ih ht hn ⊢
        rw [← ht] at ih hf ⊢
        cases y with
        | atom a => rw [jo_out _ _ (op_aO _), partQ_id (op_aO _) (.inl (op_aA _)), ih]
        | not a => rw [jo_out _ _ (op_nO _), partQ_id (op_nO _) (.inl (op_nA _)), ih]
        | par a => exact absurd rfl (hn a)
        | andC a b => rw [jo_out _ _ (by show sAnd ≠ sOr; decide), partQ_id (by show sAnd ≠ sOr; decide) (.inr (by decide)), ih]
        | orC a b => rw [jo_in sOr (.inl rfl) sepOr rfl hf rfl, ih]
      · exact .inr ih
    have j1 := (jo f).resolve_right (fun h => h (txt_tid f))
    have j2 := (jo a).resolve_right (fun h => h (txt_tid a))
    rw [treeX, txt_two sOr (.inl rfl) sepOr rfl (tree_ok f).fok (tree_ok a).fok, j1, j2, tidX, str_orO]
theorem lx_str : ∀ x, OkX numF x → LX (strX x) (tokX x)
  | .atom a, h => lex_atom (h a (by simp [atsX]))
  | .not f, h => lx_not (lx_str f h)
  | .par o, h => lx_par (lx_str o h)
  | .andC f a, h => lx_sep (sep := [97, 110, 100]) (lx_str f (fun x hx => h x (by simp [atsX, hx]))) (lx_str a (fun x hx => h x (by simp [atsX, hx]))) (LX.of_dec (by decide))
  | .orC f a, h => lx_sep (sep := [111, 114]) (lx_str f (fun x hx => h x (by simp [atsX, hx]))) (lx_str a (fun x hx => h x (by simp [atsX, hx]))) (LX.of_dec (by decide))
theorem str_len : ∀ x, OkX numF x → (strX x).length + 1 ≤ wsum (tokX x)
  | .atom a, h => by
    have := wt_atom (h a (by simp [atsX]))
    show (txtA a).data.toList.length + 1 ≤ wsum (atT a)
    rw [← this]
    simp
  | .not f, h => by
    have := str_len f h
    rw [strX, tokX, wsum_cons, List.length_append]
    show 4 + _ + 1 ≤ 3 + 1 + _
    omega
  | .par f, h => by
    have := str_len f h
    rw [strX, tokX, wsum_cons, wsum_app, wsum_cons, wsum_nil, List.length_append, List.length_append]
    show 1 + _ + 1 + 1 ≤ 1 + 1 + (_ + (1 + 1 + 0))
    omega
  | .andC f a, h => by
    have h1 := str_len f (fun x hx => h x (by simp [atsX, hx]))
    have h2 := str_len a (fun x hx => h x (by simp [atsX, hx]))
    rw [strX, tokX, wsum_app, wsum_cons, List.length_append, List.length_append]
    show _ + 5 + _ + 1 ≤ _ + (3 + 1 + _)
    omega
  | .orC f a, h => by
    have h1 := str_len f (fun x hx => h x (by simp [atsX, hx]))
    have h2 := str_len a (fun x hx => h x (by simp [atsX, hx]))
    rw [strX, tokX, wsum_app, wsum_cons, List.length_append, List.length_append]
    show _ + 4 + _ + 1 ≤ _ + (2 + 1 + _)
    omega
def wX (x : Rx) : Nat := wsum (tokX x)
theorem w_not (f : Rx) : wX (.not f) = wX f + 4 := by unfold wX; rw [tokX, wsum_cons]; show 3 + 1 + _ = _; omega
theorem w_par (f : Rx) : wX (.par f) = wX f + 4 := by unfold wX; rw [tokX, wsum_cons, wsum_app, wsum_cons, wsum_nil]; show 1 + 1 + (_ + (1 + 1 + 0)) = _; omega
theorem w_andC (f a : Rx) : wX (.andC f a) = wX f + wX a + 4 := by unfold wX; rw [tokX, wsum_app, wsum_cons]; show _ + (3 + 1 + _) = _; omega
theorem w_orC (f a : Rx) : wX (.orC f a) = wX f + wX a + 3 := by unfold wX; rw [tokX, wsum_app, wsum_cons]; show _ + (2 + 1 + _) = _; omega
theorem w_andA (f a : Rx) : wX (andA f a) = wX f + wX a + 4 := by unfold wX; rw [tok_andA, wsum_app, wsum_cons]; show _ + (3 + 1 + _) = _; omega
theorem w_andO (f a : Rx) : wX (andO f a) = wX f + wX a + 4 := by unfold wX; rw [tok_andO, wsum_app, wsum_cons]; show _ + (3 + 1 + _) = _; omega
theorem w_orO (f a : Rx) : wX (orO f a) = wX f + wX a + 3 := by unfold wX; rw [tok_orO, wsum_app, wsum_cons]; show _ + (2 + 1 + _) = _; omega
theorem w_notO (f : Rx) : wX (notO f) = wX f + 4 := by unfold wX; rw [tok_notO, wsum_cons]; show 3 + 1 + _ = _; omega
theorem fac_two : ∀ x, (wX (facX x) ≤ wX x + 4 ∧ depX (facX x) ≤ depX x + 1) ∧ (wX (alvX x) ≤ wX (facX x) ∧ depX (alvX x) ≤ depX (facX x)) ∧ wX x ≤ wX (alvX x) ∧ depX x ≤ depX (alvX x)
  | .atom _ => ⟨⟨Nat.le_add_right _ _, Nat.le_add_right _ _⟩, ⟨Nat.le_refl _, Nat.le_refl _⟩, Nat.le_refl _, Nat.le_refl _⟩
  | .not _ => ⟨⟨Nat.le_add_right _ _, Nat.le_add_right _ _⟩, ⟨Nat.le_refl _, Nat.le_refl _⟩, Nat.le_refl _, Nat.le_refl _⟩
  | .par _ => ⟨⟨Nat.le_add_right _ _, Nat.le_add_right _ _⟩, ⟨Nat.le_refl _, Nat.le_refl _⟩, Nat.le_refl _, Nat.le_refl _⟩
  | .andC f a => by
    simp only [facX, alvX, w_par, depX]
    omega
  | .orC f a => by
    simp only [facX, alvX, w_par, depX]
    omega
/-- Tidy makes no rule longer, none deeper -/
theorem tid_two {lv : Nat} {x : Rx} (h : LvX lv x) : (lv = 0 → wX (facX (tidX x)) ≤ wX x ∧ depX (facX (tidX x)) ≤ depX x) ∧ (lv = 1 → wX (alvX (tidX x)) ≤ wX x ∧ depX (alvX (tidX x)) ≤ depX x) ∧ (lv = 2 → wX (tidX x) ≤ wX x ∧ depX (tidX x) ≤ depX x) := by
  induction h with
  | atom a => exact ⟨fun _ => ⟨Nat.le_refl _, Nat.le_refl _⟩, fun h => absurd h (by decide), fun h => absurd h (by decide)⟩
  | not h0 ih =>
    refine ⟨fun _ => ?_, fun h => absurd h (by decide), fun h => absurd h (by decide)⟩
    have := ih.1 rfl
    rw [tidX, facX, w_not, w_not, depX, depX]
    omega
  | par h0 ih =>
    rename_i o
    refine ⟨fun _ => ?_, fun h => absurd h (by decide), fun h => absurd h (by decide)⟩
    have := ih.2.2 rfl
    have h2 := (fac_two (tidX o)).1
    rw [tidX, w_par, depX]
    omega
  | oneA h0 ih =>
    rename_i f
    refine ⟨fun h => absurd h (by decide), fun _ => ?_, fun h => absurd h (by decide)⟩
    have := ih.1 rfl
    have h2 := (fac_two (tidX f)).2.1
    omega
  | andC h1 h2 i1 i2 =>
    rename_i f a
    refine ⟨fun h => absurd h (by decide), fun _ => ?_, fun h => absurd h (by decide)⟩
    have := i1.1 rfl
    have := i2.2.1 rfl
    have h2 := (fac_two (tidX f)).2.1
    have e : alvX (andA (alvX (tidX f)) (alvX (tidX a))) = andA (alvX (tidX f)) (alvX (tidX a)) := by cases alvX (tidX f) <;> rfl
    rw [tidX, e, w_andA, dep_andA, w_andC, depX]
    omega
  | oneO h0 ih =>
    rename_i f
    refine ⟨fun h => absurd h (by decide), fun h => absurd h (by decide), fun _ => ?_⟩
    have := ih.2.1 rfl
    have h2 := (fac_two (tidX f)).2.2
    omega
  | orC h1 h2 i1 i2 =>
    rename_i f a
    refine ⟨fun h => absurd h (by decide), fun h => absurd h (by decide), fun _ => ?_⟩
    have := i1.2.1 rfl
    have := i2.2.2 rfl
    have h2 := (fac_two (tidX f)).2.2
    rw [tidX, w_orO, dep_orO, w_orC, depX]
    omega
theorem RXs.size {s : ByteArray} {x : Rx} (h : RXs numF s x) : (strX (tidX x)).length + 1 ≤ wX x := by
  have h1 := str_len (tidX x) (fun a ha => h.ok a (by rwa [ats_tid] at ha))
  have h2 := ((tid_two h.lv).2.2 rfl).1
  unfold wX at h2 ⊢
  omega
/-- the tidy text is again such a rule -/
theorem RXs.tid {s : ByteArray} {x : Rx} (h : RXs numF s x) : RXs numF (baOf (strX (tidX x))) (tidX x) := by
  have ho : OkX numF (tidX x) := fun a ha => h.ok a (by rwa [ats_tid] at ha)
  exact LX.rx (by rw [baOf_data]; exact lx_str _ ho) (tid_lv x) ho
end Go.Proofs.YtfhdknppldobiaaGreatDoor

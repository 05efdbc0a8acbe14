/-
  Rules that are put together of parts: what the parser makes of their tokens. No Go text is named here.
-/
import Derived.Test.YtfhdknppldobiaaGreatDoorZGrm1
namespace Go.Proofs.YtfhdknppldobiaaGreatDoor
open Go Go.RowKit

inductive QxOk : Nq → Prop
  | leaf (a : ByteArray) : QxOk (.node noB a [])
  | not (k : Nq) (h : QxOk k) : QxOk (.node sNot noB [k])
  | list (op : ByteArray) (ks : List Nq) (hop : op = sOr ∨ op = sAnd) (h2 : 2 ≤ ks.length) : QxOk (.node op noB ks)
theorem QxOk.fok {t : Nq} (h : QxOk t) : FOk t := by
  cases h with
  | leaf a => exact fun h => (by rcases h with h | h; exact absurd (show noB = sOr from h) (by decide); exact absurd (show noB = sAnd from h) (by decide))
  | not k _ => exact fun h => (by rcases h with h | h; exact absurd (show sNot = sOr from h) (by decide); exact absurd (show sNot = sAnd from h) (by decide))
  | list op ks hop h2 => exact fun _ => ⟨h2, rfl⟩
theorem tree_ok : ∀ x, QxOk (treeX x)
  | .atom a => .leaf _
  | .not f => .not _ (tree_ok f)
  | .par o => tree_ok o
  | .andC f a => .list _ _ (.inr rfl) (by
      have h1 := (tree_ok f).fok.spl (op := sAnd) (.inr rfl)
      have h2 := (tree_ok a).fok.spl (op := sAnd) (.inr rfl)
      rw [List.length_append]; omega)
  | .orC f a => .list _ _ (.inl rfl) (by
      have h1 := (tree_ok f).fok.spl (op := sOr) (.inl rfl)
      have h2 := (tree_ok a).fok.spl (op := sOr) (.inl rfl)
      rw [List.length_append]; omega)
theorem map_cons {l : List Tk} {t : ByteArray} {u : List ByteArray} (h : l.map (·.1) = t :: u) : ∃ p l2, l = (t, p) :: l2 ∧ l2.map (·.1) = u := by
  cases l with
  | nil => cases h
  | cons x l2 =>
    rw [List.map_cons] at h
    injection h with h1 h2
    exact ⟨x.2, l2, by rw [← h1], h2⟩
theorem notR_eq (k : Nat) (t : ByteArray) (p : Nat) (l : List Tk) : notR (k + 1) ((t, p) :: l) =
    if t = sNot then notQ (notR k l)
    else if t = sOpen then shutR (listR sOr (listR sAnd (notR k)) l)
    else if t = sTrue then some (.node noB sTrue [], l)
    else if t = sHas then hasR l
    else triR t l := rfl
theorem not_atom {num : ByteArray → Int × Bool} {a : Atm} (h : AtmOk num a) {l : List Tk} {rt : List ByteArray} (hl : l.map (·.1) = atT a ++ rt) (k : Nat) : ∃ l', l'.map (·.1) = rt ∧ notR (k + 1) l = some (.node noB (txtA a) [], l') := by
  obtain ⟨wd, nm, vl, n⟩ := a
  unfold atT at hl
  unfold txtA
  rcases h with ⟨h, _⟩ | ⟨h, h1, _⟩ | ⟨h, h1, h2⟩ | ⟨h, _, h1, h2, h3, h4⟩ <;> simp only at *
  · subst h
    rw [if_pos rfl] at hl ⊢
    obtain ⟨p, l2, rfl, e2⟩ := map_cons hl
    exact ⟨l2, e2, by rw [notR_eq, if_neg (by decide), if_neg (by decide), if_pos rfl]⟩
  · subst h
    rw [if_neg (by decide), if_pos rfl] at hl ⊢
    obtain ⟨p, l2, rfl, e2⟩ := map_cons hl
    obtain ⟨p2, l3, rfl, e3⟩ := map_cons e2
    exact ⟨l3, e3, by rw [notR_eq, if_neg (by decide), if_neg (by decide), if_neg (by decide), if_pos rfl]; rfl⟩
  · subst h
    rw [if_neg (by decide), if_neg (by decide), if_pos rfl] at hl ⊢
    obtain ⟨n1, n2, n3, n4, n5, n6, n7⟩ := name_fit h1
    obtain ⟨p, l2, rfl, e2⟩ := map_cons hl
    obtain ⟨p2, l3, rfl, e3⟩ := map_cons e2
    obtain ⟨p3, l4, rfl, e4⟩ := map_cons e3
    exact ⟨l4, e4, by rw [notR_eq, if_neg n2, if_neg n1, if_neg n3, if_neg n4]; rfl⟩
  · have hw : wd ≠ sTrue ∧ wd ≠ sHas ∧ wd ≠ sEq := by rcases h with rfl | rfl <;> decide
    rw [if_neg hw.1, if_neg hw.2.1, if_neg hw.2.2] at hl ⊢
    obtain ⟨p, l2, rfl, e2⟩ := map_cons hl
    obtain ⟨p2, l3, rfl, e3⟩ := map_cons e2
    obtain ⟨p3, l4, rfl, e4⟩ := map_cons e3
    exact ⟨l4, e4, by rw [notR_eq, if_neg (by decide), if_neg (by decide), if_neg (by decide), if_neg (by decide)]; rfl⟩
/-- behind a list: no word that would carry it on -/
def EndT (op : ByteArray) (rt : List ByteArray) : Prop := ∃ t u, rt = t :: u ∧ t ≠ op
theorem go_end {op : ByteArray} {part : List Tk → Option (Nq × List Tk)} {l l1 : List Tk} {q : Nq} {rt : List ByteArray} (hp : part l = some (q, l1)) (h1 : l1.map (·.1) = rt) (he : EndT op rt) (m : Nat) (hm : 1 ≤ m) (ks : List Nq) : goR op part m ks l = some (ks ++ splQ op q, l1) := by
  obtain ⟨t, u, rfl, hne⟩ := he
  obtain ⟨p, l2, rfl, _⟩ := map_cons h1
  obtain ⟨m, rfl⟩ : ∃ m', m = m' + 1 := ⟨m - 1, by omega⟩
  unfold goR
  rw [hp]
  show moreR op part (m + 1) (ks ++ splQ op q) ((t, p) :: l2) = _
  rw [moreR, if_neg hne]
theorem go_on {op : ByteArray} {part : List Tk → Option (Nq × List Tk)} {l l2 : List Tk} {q : Nq} {p : Nat} (hp : part l = some (q, (op, p) :: l2)) (m : Nat) (ks : List Nq) : goR op part (m + 1) ks l = goR op part m (ks ++ splQ op q) l2 := by
  unfold goR
  rw [hp]
  show moreR op part (m + 1) (ks ++ splQ op q) ((op, p) :: l2) = _
  rw [moreR, if_pos rfl]
  cases part l2 <;> rfl
theorem list_of_go {op : ByteArray} (hop : op = sOr ∨ op = sAnd) {part : List Tk → Option (Nq × List Tk)} {l l1 : List Tk} {q : Nq} (hq : FOk q) (h : goR op part l.length [] l = some (splQ op q, l1)) : listR op part l = some (q, l1) := by
  unfold goR at h
  unfold listR
  cases hx : part l with
  | none => rw [hx] at h; cases h
  | some r =>
    rw [hx] at h
    simp only [List.nil_append] at h
    simp only [h, joinQ_one hq hop]
theorem spl_list (op : ByteArray) (ks : List Nq) : splQ op (.node op noB ks) = ks := by
  unfold splQ
  show (if op = op then ks else _) = ks
  rw [if_pos rfl]
/-- what the parser makes of the tokens, by levels -/
theorem par_all {num : ByteArray → Int × Bool} {lv : Nat} {x : Rx} (h : LvX lv x) : OkX num x →
    (lv = 0 → ∀ (k : Nat) (l : List Tk) (rt : List ByteArray), l.map (·.1) = tokX x ++ rt → (tokX x).length ≤ k → ∃ l', l'.map (·.1) = rt ∧ notR k l = some (treeX x, l')) ∧
    (lv = 1 → ∀ (k : Nat) (l : List Tk) (rt : List ByteArray), l.map (·.1) = tokX x ++ rt → (tokX x).length ≤ k → EndT sAnd rt → ∀ (m : Nat) (ks : List Nq), l.length ≤ m → ∃ l', l'.map (·.1) = rt ∧ goR sAnd (notR k) m ks l = some (ks ++ splQ sAnd (treeX x), l')) ∧
    (lv = 2 → ∀ (k : Nat) (l : List Tk) (rt : List ByteArray), l.map (·.1) = tokX x ++ rt → (tokX x).length ≤ k → EndT sAnd rt → EndT sOr rt → ∀ (m : Nat) (ks : List Nq), l.length ≤ m → ∃ l', l'.map (·.1) = rt ∧ goR sOr (listR sAnd (notR k)) m ks l = some (ks ++ splQ sOr (treeX x), l')) := by
  induction h with
  | atom a =>
    intro hok
    refine ⟨fun _ k l rt hl hk => ?_, fun h => absurd h (by decide), fun h => absurd h (by decide)⟩
    have ha := hok a (by simp [atsX])
    obtain ⟨k, rfl⟩ : ∃ k', k = k' + 1 := ⟨k - 1, by
      have : 1 ≤ (tokX (.atom a)).length := by
        unfold tokX atT
        split
        · simp
        · split
          · simp
          · split <;> simp
      omega⟩
    exact not_atom ha hl k
  | not h0 ih =>
    rename_i f
    intro hok
    refine ⟨fun _ k l rt hl hk => ?_, fun h => absurd h (by decide), fun h => absurd h (by decide)⟩
    rw [tokX] at hl hk
    obtain ⟨p, l2, rfl, e2⟩ := map_cons hl
    rw [List.length_cons] at hk
    obtain ⟨k, rfl⟩ : ∃ k', k = k' + 1 := ⟨k - 1, by omega⟩
    obtain ⟨l', e3, e4⟩ := (ih hok).1 rfl k l2 rt e2 (by omega)
    refine ⟨l', e3, ?_⟩
    rw [notR_eq, if_pos rfl, e4]
    rfl
  | par h0 ih =>
    rename_i o
    intro hok
    refine ⟨fun _ k l rt hl hk => ?_, fun h => absurd h (by decide), fun h => absurd h (by decide)⟩
    rw [tokX] at hl hk
    obtain ⟨p, l2, rfl, e2⟩ := map_cons hl
    replace e2 : l2.map (·.1) = tokX o ++ (sShut :: rt) := by rw [e2]; exact List.append_assoc _ _ _
    rw [List.length_cons, List.length_append] at hk
    obtain ⟨k, rfl⟩ : ∃ k', k = k' + 1 := ⟨k - 1, by omega⟩
    obtain ⟨l', e3, e4⟩ := (ih hok).2.2 rfl k l2 (sShut :: rt) e2 (by omega) ⟨_, _, rfl, by decide⟩ ⟨_, _, rfl, by decide⟩ l2.length [] (Nat.le_refl _)
    obtain ⟨p3, l3, rfl, e5⟩ := map_cons e3
    refine ⟨l3, e5, ?_⟩
    rw [List.nil_append] at e4
    rw [notR_eq, if_neg (by decide), if_pos rfl, list_of_go (.inl rfl) (tree_ok o).fok e4]
    rfl
  | oneA h0 ih =>
    intro hok
    refine ⟨fun h => absurd h (by decide), fun _ k l rt hl hk he m ks hm => ?_, fun h => absurd h (by decide)⟩
    obtain ⟨l', e3, e4⟩ := (ih hok).1 rfl k l rt hl hk
    have hl1 : 1 ≤ l.length := by
      cases l with
      | nil =>
        obtain ⟨t, u, rfl, _⟩ := he
        have := congrArg List.length hl
        rw [List.length_append] at this
        simp at this
      | cons a b => simp
    exact ⟨l', e3, go_end e4 e3 he m (by omega) ks⟩
  | andC h1 h2 ih1 ih2 =>
    rename_i f a
    intro hok
    refine ⟨fun h => absurd h (by decide), fun _ k l rt hl hk he m ks hm => ?_, fun h => absurd h (by decide)⟩
    rw [tokX, List.append_assoc, List.cons_append] at hl
    rw [tokX, List.length_append, List.length_cons] at hk
    obtain ⟨l', e3, e4⟩ := (ih1 (fun x hx => hok x (by simp [atsX, hx]))).1 rfl k l _ hl (by omega)
    obtain ⟨p, l2, rfl, e5⟩ := map_cons e3
    have hlen : l2.length < l.length := by
      have h3 := congrArg List.length hl
      have h4 := congrArg List.length e5
      simp only [List.length_map, List.length_append, List.length_cons] at h3 h4
      omega
    obtain ⟨m, rfl⟩ : ∃ m', m = m' + 1 := ⟨m - 1, by omega⟩
    obtain ⟨l3, e6, e7⟩ := (ih2 (fun x hx => hok x (by simp [atsX, hx]))).2.1 rfl k l2 rt e5 (by omega) he m (ks ++ splQ sAnd (treeX f)) (by omega)
    refine ⟨l3, e6, ?_⟩
    rw [go_on e4, e7, treeX, spl_list, List.append_assoc]
  | oneO h0 ih =>
    rename_i x
    intro hok
    refine ⟨fun h => absurd h (by decide), fun h => absurd h (by decide), fun _ k l rt hl hk he he2 m ks hm => ?_⟩
    obtain ⟨l', e3, e4⟩ := (ih hok).2.1 rfl k l rt hl hk he l.length [] (Nat.le_refl _)
    have hl1 : 1 ≤ l.length := by
      cases l with
      | nil =>
        obtain ⟨t, u, rfl, _⟩ := he
        have := congrArg List.length hl
        rw [List.length_append] at this
        simp at this
      | cons a b => simp
    rw [List.nil_append] at e4
    exact ⟨l', e3, go_end (list_of_go (.inr rfl) (tree_ok x).fok e4) e3 he2 m (by omega) ks⟩
  | orC h1 h2 ih1 ih2 =>
    rename_i f a
    intro hok
    refine ⟨fun h => absurd h (by decide), fun h => absurd h (by decide), fun _ k l rt hl hk he he2 m ks hm => ?_⟩
    rw [tokX, List.append_assoc, List.cons_append] at hl
    rw [tokX, List.length_append, List.length_cons] at hk
    obtain ⟨l', e3, e4⟩ := (ih1 (fun x hx => hok x (by simp [atsX, hx]))).2.1 rfl k l _ hl (by omega) ⟨_, _, rfl, by decide⟩ l.length [] (Nat.le_refl _)
    obtain ⟨p, l2, rfl, e5⟩ := map_cons e3
    have hlen : l2.length < l.length := by
      have h3 := congrArg List.length hl
      have h4 := congrArg List.length e5
      simp only [List.length_map, List.length_append, List.length_cons] at h3 h4
      omega
    obtain ⟨m, rfl⟩ : ∃ m', m = m' + 1 := ⟨m - 1, by omega⟩
    obtain ⟨l3, e6, e7⟩ := (ih2 (fun x hx => hok x (by simp [atsX, hx]))).2.2 rfl k l2 rt e5 (by omega) he he2 m (ks ++ splQ sOr (treeX f)) (by omega)
    refine ⟨l3, e6, ?_⟩
    rw [List.nil_append] at e4
    rw [go_on (list_of_go (.inr rfl) (tree_ok f).fok e4), e7, treeX, spl_list, List.append_assoc]

/-- a string that is put together so -/
structure RXs (num : ByteArray → Int × Bool) (s : ByteArray) (x : Rx) : Prop where
  cl : ∀ c ∈ s.data.toList, cleanB c = true
  lx : (lexW [] s.data.toList).map baOf = tokX x
  lv : LvX 2 x
  ok : OkX num x
theorem lex_len : ∀ (l acc : List UInt8), (lexW acc l).length ≤ l.length + acc.length
  | [], acc => by
    rw [lexW]
    split
    · simp
    · rename_i h
      have : 0 < acc.length := List.length_pos_iff.2 h
      simp; omega
  | c :: r, acc => by
    rw [lexW]
    split
    · have := lex_len r (acc ++ [c])
      simp at this ⊢
      omega
    · have := lex_len r []
      have h1 : (if acc = [] then ([] : List (List UInt8)) else [acc]).length ≤ acc.length := by
        split
        · simp
        · rename_i h
          exact List.length_pos_iff.2 h
      have h2 : (if markB c = true then [[c]] else ([] : List (List UInt8))).length ≤ 1 := by split <;> simp
      simp only [List.length_append, List.length_cons, List.length_nil] at this h1 h2 ⊢
      omega
theorem RXs.check {num : ByteArray → Int × Bool} (hnum : NumOk num) {s : ByteArray} {x : Rx} (h : RXs num s x) (hs : s.size ≤ 2000) (hd : depX x ≤ 21) : parseE num s = (0, 0) ∧ flat (parseT num s).1 = treeX x := by
  obtain ⟨l, e1, e2⟩ := toks_lex s h.cl s.size 0 (by omega) (Nat.zero_le _)
  rw [List.drop_zero, h.lx] at e2
  have hce : checkE num s = (0, 0) := by
    unfold checkE
    rw [if_neg (by omega), e1, (run_all hnum x h.ok [] (by simpa using hd)).chk l _ _ _ e2]
    have hf : fitF num 1 (⟨#[]⟩ : ByteArray) ((popN []).count true) = (true, 1) := by
      unfold fitF
      rw [if_neg (by decide), if_pos rfl, if_neg (by decide), if_neg (by decide)]
      rfl
    rw [chkF, hf, if_neg (by simp), chkF]
    have hdp : deepF 1 (⟨#[]⟩ : ByteArray) s.size (popN []) (-1) = -1 := by
      unfold deepF
      rw [if_neg (by rintro (h | h); exact absurd h (by decide); exact absurd h.2 (by decide))]
    show (if 0 ≤ deepF 1 (⟨#[]⟩ : ByteArray) s.size (popN []) (-1) then _ else _) = _
    rw [hdp]
    rfl
  obtain ⟨c1, c2⟩ := check_parse num hnum s
  have hpe : parseE num s = (0, 0) := c1.symm.trans hce
  obtain ⟨_, _, l', hor⟩ := c2 (by rw [hpe])
  refine ⟨hpe, ?_⟩
  have hlen : (tokX x).length ≤ s.size + 1 := by
    rw [← h.lx, List.length_map]
    have := lex_len s.data.toList []
    simp at this
    omega
  obtain ⟨l2, _, e4⟩ := (par_all h.lv h.ok).2.2 rfl (s.size + 1) (toks s 0) [(⟨#[]⟩ : ByteArray)] (by rw [e1, List.map_append, e2]; rfl) hlen ⟨_, _, rfl, by decide⟩ ⟨_, _, rfl, by decide⟩ (toks s 0).length [] (Nat.le_refl _)
  rw [List.nil_append] at e4
  have e5 : orR (s.size + 1) (toks s 0) = some (treeX x, l2) := list_of_go (.inl rfl) (tree_ok x).fok e4
  rw [hor] at e5
  injection e5 with e5
  injection e5
end Go.Proofs.YtfhdknppldobiaaGreatDoor

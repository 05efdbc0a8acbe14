/-
  race.(*field).begin, before and after by contracts: they answer as befP and aftP.
-/
import Derived.Test.YthbcogekfdllmaaGreatDoorZRfPure
import Derived.Test.YthbcogekfdllmaaGreatDoorZMapR
import Derived.Test.YthbcogekfdllmaaGreatDoorZSlot3
import Derived.Deep.RegionHeld3
import Derived.RegionTactic
import Derived.Deep.DeepCutAuto
import Derived.Deep.CutBlock
namespace Go.Proofs.YthbcogekfdllmaaGreatDoor
open Go Go.RowKit
attribute [local go_sem ↓] Go.wp_at_zero Go.wp_at_succ

theorem litB (x : ByteArray) (l : List UInt8) (y : ByteArray) (hy : y.data.toList = l) : (x.toList == l) = decide (x = y) := by
  rw [Lib.toList_data, ← hy]
  by_cases h : x = y
  · subst h; simp
  · rw [decide_eq_false h]
    have : x.data.toList ≠ y.data.toList := fun e => h (by cases x; cases y; congr; exact Array.toList_inj.1 e)
    simpa using this
theorem hwB_inj {a b : Nat} (ha : a ≤ 4) (hb : b ≤ 4) (h : hwB a = hwB b) : a = b := by
  have hs : ∀ a, a ≤ 4 → ∀ b, b ≤ 4 → (hwB a).data.toList = (hwB b).data.toList → a = b := by decide
  exact hs a ha b hb (by rw [h])
theorem hwB_size (a : Nat) : (hwB a).size ≤ 5 := by
  unfold hwB
  split <;> decide
theorem hwB_ne (a : Nat) : hwB a ≠ ⟨#[]⟩ := by
  unfold hwB
  split <;> decide
/-- an entrant -/
def entV (v : Nat × Int) : Value := .agg #[.string (hwB v.1), .int .i64 v.2]
def rfF (F : PF) : ByteArray → Option Value := fun s => (F.en s).map entV
/-- what holds of a field on its way -/
structure KF (F : PF) : Prop where
  nd : F.ks.Nodup
  sz : ∀ s ∈ F.ks, s.size ≤ 40
  iff : ∀ s, s ∈ F.ks ↔ (F.en s).isSome = true
  c4 : ∀ s c, hwP F s = some c → c ≤ 4
theorem KF.start : KF pf0 := ⟨List.nodup_nil, (by intro s hs; cases hs), fun s => by simp [pf0], (fun s c h => by cases h)⟩
theorem rfF_isSome (F : PF) (s : ByteArray) : (rfF F s).isSome = (F.en s).isSome := by unfold rfF; simp
theorem hwP_isSome (F : PF) (s : ByteArray) : (hwP F s).isSome = (F.en s).isSome := by unfold hwP; simp
theorem KF.keys {F : PF} (h : KF F) : KeysM (rfF F) F.ks := ⟨h.nd, fun s hs => by have := h.sz s hs; unfold maxLen; omega, fun s _ => by rw [rfF_isSome]; exact h.iff s⟩
theorem KF.set {F : PF} (h : KF F) {k : ByteArray} (hk : (F.en k).isSome = true) (v : Nat × Int) (hv : v.1 ≤ 4) : KF (setP F k v) := by
  refine ⟨h.nd, h.sz, fun s => ?_, fun s c hc => ?_⟩
  · show s ∈ F.ks ↔ (setE F.en k v s).isSome = true
    by_cases e : s = k
    · subst e; rw [setE_same]; simp [h.iff, hk]
    · rw [setE_ne _ _ e]; exact h.iff s
  · rw [hwP_set] at hc
    by_cases e : s = k
    · subst e; rw [setE_same] at hc; injection hc with hc; omega
    · rw [setE_ne _ _ e] at hc; exact h.c4 s c hc
theorem KF.add {F : PF} (h : KF F) {k : ByteArray} (hk : ¬ (F.en k).isSome = true) (hz : k.size ≤ 40) : KF (addP F k) := by
  have hn : k ∉ F.ks := fun hm => hk ((h.iff k).1 hm)
  refine ⟨List.nodup_append.2 ⟨h.nd, List.nodup_cons.2 ⟨List.not_mem_nil, List.nodup_nil⟩, fun a ha b hb e => ?_⟩, fun s hs => ?_, fun s => ?_, fun s c hc => ?_⟩
  · simp at hb; subst hb; subst e; exact hn ha
  · have hs : s ∈ F.ks ++ [k] := hs
    rcases List.mem_append.1 hs with hs | hs
    · exact h.sz s hs
    · simp at hs; subst hs; exact hz
  · show s ∈ F.ks ++ [k] ↔ (setE F.en k (0, 0) s).isSome = true
    by_cases e : s = k
    · subst e; rw [setE_same]; simp
    · rw [setE_ne _ _ e, List.mem_append, List.mem_singleton]; simp [e, h.iff]
  · have hc : (setE F.en k (0, 0) s).map (·.1) = some c := hc
    by_cases e : s = k
    · subst e; rw [setE_same] at hc; injection hc with hc; subst hc; exact Nat.zero_le _
    · rw [setE_ne _ _ e] at hc; exact h.c4 s c hc
theorem KF.del {F : PF} (h : KF F) (k : ByteArray) : KF (rDel F k) := by
  refine ⟨h.nd.filter _, fun s hs => h.sz s (List.mem_filter.1 hs).1, fun s => ?_, fun s c hc => ?_⟩
  · show s ∈ F.ks.filter _ ↔ (delE F.en k s).isSome = true
    unfold delE
    by_cases e : s = k
    · simp [e]
    · simp [e, h.iff]
  · rw [hwP_rDel] at hc
    unfold delE at hc
    split at hc
    · cases hc
    · exact h.c4 s c hc
theorem KF.go {F : PF} (h : KF F) (a : Int) : KF (goP F a) := by
  refine ⟨h.nd.filter _, fun s hs => h.sz s (List.mem_filter.1 hs).1, fun s => ?_, fun s c hc => ?_⟩
  · show s ∈ F.ks.filter _ ↔ ((if hwP F s = some 1 then some ((2 : Nat), (0 : Int)) else none)).isSome = true
    rw [List.mem_filter, h.iff, ← hwP_isSome]
    by_cases e : hwP F s = some 1
    · simp [e]
    · simp [e]
  · rw [hwP_go] at hc
    split at hc
    · injection hc with hc; omega
    · cases hc
theorem KF.step {F F' : PF} (h : KF F) {x : Stp} (hz : x.who.size ≤ 40) (hs : stpP F x = some F') : KF F' := by
  unfold stpP at hs
  split at hs
  · unfold aftP at hs
    split at hs
    · cases hs
    · rename_i hne
      have hi : (F.en x.who).isSome = true := by
        rw [← hwP_isSome]
        cases hh : hwP F x.who with
        | none => exact absurd hh hne
        | some c => rfl
      split at hs
      · injection hs with hs; subst hs; exact h.set hi _ (by simp)
      · split at hs
        · injection hs with hs; subst hs; exact h.set hi _ (by decide)
        · split at hs
          · injection hs with hs; subst hs; exact h.set hi _ (by decide)
          · cases hs
  · have hi : ∀ c, hwP F x.who = some c → (F.en x.who).isSome = true := fun c hc => by rw [← hwP_isSome, hc]; rfl
    unfold befP at hs
    split at hs
    · split at hs
      · cases hs
      · rename_i hne
        injection hs with hs; subst hs
        exact h.add (fun h2 => hne (.inl (by rw [hwP_isSome]; exact h2))) hz
    · split at hs
      · split at hs
        · rename_i hc; injection hs with hs; subst hs; exact h.set (hi _ hc) _ (by decide)
        · cases hs
      · split at hs
        · split at hs
          · rename_i hc; injection hs with hs; subst hs; exact h.set (hi _ hc) _ (by decide)
          · cases hs
        · split at hs
          · split at hs
            · injection hs with hs; subst hs; exact h.del _
            · cases hs
          · split at hs
            · split at hs
              · cases hs
              · injection hs with hs; subst hs; exact h.go _
            · cases hs
theorem rfF_set (F : PF) (k : ByteArray) (v : Nat × Int) : upd (rfF F) k (entV v) = rfF (setP F k v) := by
  funext s
  show _ = (setE F.en k v s).map entV
  unfold upd setE rfF
  split <;> rfl
theorem rfF_add (F : PF) (k : ByteArray) : upd (rfF F) k (entV (0, 0)) = rfF (addP F k) := by
  funext s
  show _ = (setE F.en k (0, 0) s).map entV
  unfold upd setE rfF
  split <;> rfl
theorem rfF_del (F : PF) (k : ByteArray) : delM (rfF F) k = rfF (rDel F k) := by
  funext s
  show _ = (delE F.en k s).map entV
  unfold delM delE rfF
  split <;> rfl
/-- what a field is in memory -/
abbrev fldL (g m n : Nat) (F : PF) (l : List Rsc) : List Rsc := rBlk g 118 #[.map (some m), .bool F.st, .int .i64 F.at0] :: rMap 9 m n (rfF F) :: l
/-- what a step makes of a field in memory -/
def FldR (w0 : World) (g n : Nat) (F : PF) (o : Option PF) (l : List Rsc) (e : Ending) (w' : World) : Prop :=
  ∃ m', e = .returned (.bool o.isSome) ∧ Sq w0 w' (fldL g m' (n + 1) (o.getD F) l)
theorem rMap_more {w W : World} {l : List Rsc} {kt : TypeId} {g n n' : Nat} {f : ByteArray → Option Value} (h : Sq w W (rMap kt g n f :: l)) (hn : n ≤ n') : Sq w W (rMap kt g n' f :: l) :=
  ⟨h.below, h.hp.tail.cons (MapS.mono h.head hn) (rMap_ok _ _ _ _) (fun k hk => h.hp.new _ (List.mem_cons_self ..) k hk) (fun s hs k hk hk2 => (List.pairwise_cons.1 h.hp.apart).1 s hs k hk hk2)⟩
theorem fld_no {w0 W : World} {g m n : Nat} {F : PF} {o : Option PF} {l : List Rsc} (ho : o = none) (h : Sq w0 W (fldL g m n F l)) : FldR w0 g n F o l (.returned (.bool false)) W := by
  subst ho
  exact ⟨m, rfl, (rMap_more (h.front 1 rfl rfl) (Nat.le_succ n)).front 1 rfl rfl⟩
theorem fld_yes {w0 W : World} {g m n : Nat} {F F' : PF} {o : Option PF} {l : List Rsc} (ho : o = some F') (h : Sq w0 W (fldL g m (n + 1) F' l)) : FldR w0 g n F o l (.returned (.bool true)) W := by
  subst ho
  exact ⟨m, rfl, h⟩
theorem zero_ent (w : World) : (zeroValue 124).run Tryz.prog w = .ok (.agg #[.string ⟨#[]⟩, .int .i64 0]) w := by kernel_rfl
theorem fld_put {w W : World} {l : List Rsc} {g N : Nat} {f : ByteArray → Option Value} (hS : Sq w W (rMap 9 g N f :: l)) (hN : N ≤ 200000) {s : ByteArray} (hs : s.size ≤ 100000) (v : Value) :
    ∃ W', (Instr.mapUpdate 116 (.map (some g)) (.string s) v).run Tryz.prog W = .ok () W' ∧ Sq w W' (rMap 9 g (N + 1) (upd f s v) :: l) := by
  have h : MapS W 9 g N f := hS.head
  obtain ⟨W', h1, h2, h3⟩ := h.update Tryz.underlying9 Tryz.underlying116 (by unfold maxLen; omega) (s := s) (by unfold maxLen; omega) v
  exact ⟨W', h1, hS.mapSet h2 h3⟩
/-- what the new map holds while begin ranges -/
def inB (seen : List ByteArray) (s : ByteArray) : Bool := seen.any (fun t => decide (t = s))
theorem inB_iff (seen : List ByteArray) (s : ByteArray) : inB seen s = true ↔ s ∈ seen := by
  unfold inB
  rw [List.any_eq_true]
  constructor
  · rintro ⟨x, hx, he⟩
    rw [decide_eq_true_eq] at he
    exact he ▸ hx
  · intro h
    exact ⟨s, h, by simp⟩
theorem inB_ne (seen : List ByteArray) {s t : ByteArray} (h : t ≠ s) : inB (seen ++ [s]) t = inB seen t := by
  unfold inB
  rw [List.any_append, List.any_cons, List.any_nil, decide_eq_false (fun e : s = t => h e.symm), Bool.or_false, Bool.or_false]
def newM (F : PF) (seen : List ByteArray) : ByteArray → Option Value := fun s => if inB seen s = true ∧ hwP F s = some 1 then some (entV (2, 0)) else none
theorem newM_nil (F : PF) : newM F [] = fun _ => none := by
  funext s
  unfold newM
  rw [if_neg (fun h => by have := (inB_iff _ _).1 h.1; cases this)]
theorem newM_skip (F : PF) (seen : List ByteArray) {s : ByteArray} (h : ¬ hwP F s = some 1) : newM F (seen ++ [s]) = newM F seen := by
  funext t
  unfold newM
  by_cases e : t = s
  · subst e; rw [if_neg (fun h2 => h h2.2), if_neg (fun h2 => h h2.2)]
  · rw [inB_ne seen e]
theorem newM_take (F : PF) (seen : List ByteArray) {s : ByteArray} (h : hwP F s = some 1) : upd (newM F seen) s (entV (2, 0)) = newM F (seen ++ [s]) := by
  funext t
  unfold upd newM
  by_cases e : t = s
  · subst e; rw [if_pos rfl, if_pos ⟨(inB_iff _ _).2 (by simp), h⟩]
  · rw [if_neg e, inB_ne seen e]
theorem newM_done (F : PF) (a : Int) {seen : List ByteArray} (h : ∀ s, s ∈ seen ↔ (F.en s).isSome = true) : newM F seen = rfF (goP F a) := by
  funext s
  unfold newM
  show _ = (if hwP F s = some 1 then some ((2 : Nat), (0 : Int)) else none).map entV
  by_cases e : hwP F s = some 1
  · have : s ∈ seen := (h s).2 (by rw [← hwP_isSome, e]; rfl)
    rw [if_pos ⟨(inB_iff _ _).2 this, e⟩, if_pos e]; rfl
  · rw [if_neg (fun h2 => e h2.2), if_neg e]; rfl
/-- no more keys seen than there are -/
theorem seen_leR : ∀ (seen vs : List ByteArray), seen.Nodup → (∀ s ∈ seen, s ∈ vs) → seen.length ≤ vs.length
  | [], _, _, _ => Nat.zero_le _
  | s :: t, vs, hn, hm => by
    rw [List.nodup_cons] at hn
    have hs := hm s (List.mem_cons_self ..)
    have ih := seen_leR t (vs.filter (fun x => decide (x ≠ s))) hn.2 (fun x hx => List.mem_filter.2 ⟨hm x (List.mem_cons_of_mem _ hx), by
      rw [decide_eq_true_eq]
      intro e
      subst e
      exact hn.1 hx⟩)
    have hlt := (List.length_filter_lt_length_iff_exists (p := fun x => decide (x ≠ s)) (l := vs)).2 ⟨s, hs, by simp⟩
    rw [List.length_cons]
    omega
set_option maxRecDepth 100000 in
set_option maxHeartbeats 1000000 in
theorem begin_calls (w0 : World) (g m n : Nat) (F : PF) (l : List Rsc) (a : Int) (w : World) (hS : Sq w0 w (fldL g m n F l)) (hK : KF F) (hn : n ≤ 100000) :
    Calls Tryz.prog 160 #[.pointer (some ⟨g, 0, none⟩), .int .i64 a] w (FldR w0 g n F (if (rdyP F).length < 2 then none else some (goP F a)) l) := by
  obtain ⟨st, hst⟩ : ∃ st, F.st = st := ⟨_, rfl⟩
  obtain ⟨a0, ha0⟩ : ∃ a0, F.at0 = a0 := ⟨_, rfl⟩
  have hS1 := hS.addMap 9
  obtain ⟨q, hq⟩ : ∃ q, q = w.heap.size := ⟨_, rfl⟩
  have HKF := Lib.hid hK
  obtain ⟨o, ho⟩ : ∃ o, o = if (rdyP F).length < 2 then none else some (goP F a) := ⟨_, rfl⟩
  rw [← ho]
  have HNO : Hid (∀ W k, (rdyP F).length < 2 → Sq w0 W (rMap 9 q k (rfF (goP F a)) :: rMap 9 m n (rfF F) :: rBlk g 118 #[.map (some m), .bool st, .int .i64 a0] :: l) → FldR w0 g n F o l (.returned (.bool false)) W) := Lib.hid (fun W k h2 h => by
    subst hst ha0
    exact fld_no (ho.trans (if_pos h2)) (h.tail.front 1 rfl rfl))
  have HYES : Hid (∀ W k, ¬ (rdyP F).length < 2 → k ≤ n → Sq w0 W (rMap 9 q k (rfF (goP F a)) :: rMap 9 m n (rfF F) :: rBlk g 118 #[.map (some q), .bool true, .int .i64 a] :: l) → FldR w0 g n F o l (.returned (.bool true)) W) := Lib.hid (fun W k h2 hk h => by
    refine fld_yes (ho.trans (if_neg h2)) (m := q) ?_
    have h3 := (h.drop 1 rfl rfl)
    exact (rMap_more h3 (by omega)).front 1 rfl rfl)
  have hkn : F.ks.length ≤ n := (MapS.size_eq Tryz.underlying9 (show MapS w 9 m n (rfF F) from hS.nth 1 rfl) hK.keys).1
  have HKN := Lib.hid hkn
  have hmm := @run_makeMap Tryz.prog
  rw [← hq] at hS1
  unfold fldL at hS1
  rw [hst, ha0] at hS1
  have hgl : g < w.heap.size := Blk.lt (show Blk w g _ _ from hS.nth 0 rfl)
  have hgq : ¬ g = q := by omega
  clear hS hkn hK hst ha0 ho
  go_enter Tryz.func160, Tryz.ntmps160
  go_upto_region 2 with (fail)
  rw [← hq]
  clear hmm
  have hS2 : Sq w0 (w.alloc (.map #[] 0)) (rMap 9 m n (rfF F) :: rMap 9 q 0 (newM F []) :: rBlk g 118 #[.map (some m), .bool st, .int .i64 a0] :: l) := by
    rw [newM_nil]
    exact hS1.front 2 rfl rfl
  obtain ⟨w1, hw1⟩ : ∃ w1, w1 = w.alloc (.map #[] 0) := ⟨_, rfl⟩
  rw [← hw1] at hS2 ⊢
  clear hw1 hS1 hq
  have cg : w1.cell? ⟨g, 0, none⟩ = some (.map (some m)) := (hS2.nth 2 rfl : Blk w1 g _ _).cell 0
  have HMP : MapS w1 9 m n (rfF F) := hS2.head
  go_wp2_with (first
    | (at_range; refine wpList_range_map _ rfl _ 116 rfl 9 124 Tryz.underlying9 Tryz.underlying116 m n (rfF F) rfl HMP ?_; intro w2 cnt0 hr0 hg0 hs0))
  go_frame
  have hS3 := (hS2.rngStart hr0 hg0).front 1 rfl rfl
  obtain ⟨r, hr⟩ : ∃ r, r = w1.heap.size := ⟨_, rfl⟩
  rw [← hr] at hS3 ⊢
  clear hS2 hr0 hg0 hs0 HMP hr cg
  go_loopw [6] (fun _ wq => ∃ (seen : List ByteArray) (cnt : Nat), Hid (∀ s ∈ seen, s ∈ F.ks) ∧ Sq w0 wq (rMap 9 q seen.length (newM F seen) :: rRng 9 m r n (rfF F) seen cnt :: rBlk g 118 #[.map (some m), .bool st, .int .i64 a0] :: l)) (fun _ wq => wq.rangeLeft m r)
  case atStart => exact ⟨[], cnt0, Lib.hid (fun s hs => by cases hs), hS3⟩
  case round =>
    clear hS3
    obtain ⟨seen, cnt, HM, hS⟩ := hrel
    have hrg : RngS wr 9 m r n (rfF F) seen cnt := hS.nth 1 rfl
    have hlen : seen.length ≤ F.ks.length := seen_leR seen F.ks hrg.nodup HM.out
    have hln : seen.length ≤ n := Nat.le_trans hlen HKN.out
    go_wp2_with (first
      | (at_next; refine wpList_next_map _ rfl _ rfl 9 Tryz.underlying9 m r n (rfF F) seen cnt rfl hrg ?_ ?_))
    · intro hdone
      have hmem : ∀ s, s ∈ seen ↔ (F.en s).isSome = true := fun s => ((HKF.out.keys.seen hrg.nodup HM.out hdone).mem_iff).trans (HKF.out.iff s)
      have e1 := newM_done F a hmem
      have hS1 : Sq w0 wr (rMap 9 q seen.length (rfF (goP F a)) :: rMap 9 m n (rfF F) :: rBlk g 118 #[.map (some m), .bool st, .int .i64 a0] :: l) := by
        rw [← e1]
        exact (hS.front 1 rfl rfl).rngEnd.front 1 rfl rfl
      have L1 := (MapS.size_eq Tryz.underlying9 (show MapS wr 9 q seen.length (rfF (goP F a)) from hS1.head) (HKF.out.go a).keys).2 116 124 3 Tryz.underlying116
      obtain ⟨d, hd⟩ : ∃ d, d = (goP F a).ks.length := ⟨_, rfl⟩
      have HD : Hid (d = (rdyP F).length) := hd
      rw [← hd] at L1
      clear hS hmem e1 hdone hd hlen HM hrg
      by_cases h2 : d < 2
      · have h2i : (d : Int) < 2 := by omega
        have HR := HNO.out wr _ (by rw [← HD.out]; exact h2) hS1
        clear hS1
        go_wp2_with fail
        go_ret
        exact HR
      · have h2i : ¬ (d : Int) < 2 := by omega
        have hB : Blk wr g 118 #[.map (some m), .bool st, .int .i64 a0] := hS1.nth 2 rfl
        have c0 := hB.cell 0
        have c1 := hB.cell 1
        have c2 := hB.cell 2
        have f0 := hB.frozen 0
        have f1 := hB.frozen 1
        have f2 := hB.frozen 2
        have hS9 := ((((((hS1.front 2 rfl rfl).set_ 0 (.map (some q))).set_ 1 (.bool true)).set_ 2 (.int .i64 a)).front 1 rfl rfl).front 2 rfl rfl).front 1 rfl rfl
        have HR := HYES.out _ _ (by rw [← HD.out]; exact h2) hln hS9
        clear hS1 hS9 hB
        go_wp2_with fail
        go_ret
        exact HR
    · intro s v w2 cnt2 hnew hsl hf hrg2 hlt2 hg2 hs2 hen
      obtain ⟨⟨c, b⟩, he, rfl⟩ := Option.map_eq_some_iff.1 hf
      have hsk : s ∈ F.ks := (HKF.out.iff s).2 (by rw [he]; rfl)
      have hsz := HKF.out.sz s hsk
      have hc4 : c ≤ 4 := HKF.out.c4 s c (by unfold hwP; rw [he]; rfl)
      have hP : hwP F s = some c := by unfold hwP; rw [he]; rfl
      have hS2 := ((hS.front 1 rfl rfl).rngStep hrg2 hg2)
      have HM2 : Hid (∀ x ∈ seen ++ [s], x ∈ F.ks) := Lib.hid (fun x hx => by
        rcases List.mem_append.1 hx with hx | hx
        · exact HM.out x hx
        · simp at hx; subst hx; exact hsk)
      have hl2 : wr.rangeLeft m r = cnt := hrg.left
      obtain ⟨hb, hhb⟩ : ∃ hb, hb = hwB c := ⟨_, rfl⟩
      have hBB := litB hb [114, 101, 97, 100, 121] (hwB 1) rfl
      have hen2 : (Instr.entry (.pointer (some ⟨r, 0, none⟩))).run Tryz.prog w2 = .ok (.tuple #[.string s, .agg #[.string hb, .int .i64 b]]) w2 := by rw [hhb]; exact hen
      have hS3 := hS2.alloc (.cells #[.string hb, .int .i64 b] 124)
      have hl3 : (seen ++ [s]).length = seen.length + 1 := by simp
      have HL3 := Lib.hid hl3
      by_cases h1 : c = 1
      · have hB1 : (hb.toList == [114, 101, 97, 100, 121]) = true := hBB.trans (decide_eq_true (by rw [hhb, h1]))
        have HT := Lib.hid (newM_take F seen (s := s) (by rw [hP, h1]))
        obtain ⟨w5, hput, hS5⟩ := fld_put (hS3.front 1 rfl rfl) (by omega) (s := s) (by omega) (.agg #[.string ⟨#[114, 97, 99, 101]⟩, .int .i64 0])
        clear hS hrg hrg2 hg2 hs2 hf hen hnew HM hhb hBB hP he hS2 hS3 hl3 h1
        go_wp2_with fail
        have hS6 : Sq w0 w5 (rMap 9 q (seen ++ [s]).length (newM F (seen ++ [s])) :: rRng 9 m r n (rfF F) (seen ++ [s]) cnt2 :: rBlk g 118 #[.map (some m), .bool st, .int .i64 a0] :: l) := by
          rw [HL3.out, ← HT.out]
          exact hS5
        have hr8 : RngS w5 9 m r n (rfF F) (seen ++ [s]) cnt2 := hS6.nth 1 rfl
        go_roundw
        case rel => exact ⟨seen ++ [s], cnt2, HM2, hS6⟩
        case measure => rw [hr8.left, hl2]; exact hlt2
      · have hB1 : (hb.toList == [114, 101, 97, 100, 121]) = false := hBB.trans (decide_eq_false (fun h => h1 (hwB_inj hc4 (by omega) (hhb ▸ h))))
        have HT := Lib.hid (newM_skip F seen (s := s) (by rw [hP]; intro h; injection h with h; exact h1 h))
        clear hS hrg hrg2 hg2 hs2 hf hen hnew HM hhb hBB hP he hS2 hl3 h1
        have hS6 : Sq w0 (w2.alloc (.cells #[.string hb, .int .i64 b] 124)) (rMap 9 q (seen ++ [s]).length (newM F (seen ++ [s])) :: rRng 9 m r n (rfF F) (seen ++ [s]) cnt2 :: rBlk g 118 #[.map (some m), .bool st, .int .i64 a0] :: l) := by
          rw [HL3.out, HT.out]
          exact rMap_more (hS3.front 1 rfl rfl) (Nat.le_succ _)
        have hr8 : RngS (w2.alloc (.cells #[.string hb, .int .i64 b] 124)) 9 m r n (rfF F) (seen ++ [s]) cnt2 := hS6.nth 1 rfl
        clear hS3
        go_wp2_with fail
        go_roundw
        case rel => exact ⟨seen ++ [s], cnt2, HM2, hS6⟩
        case measure => rw [hr8.left, hl2]; exact hlt2
end Go.Proofs.YthbcogekfdllmaaGreatDoor

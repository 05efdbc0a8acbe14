/-
  An assignment of several places of maps: an entry, then the store. No Go text is named here.
-/
import Derived.Test.YthbcogekfdllmaaGreatZMapR
import Derived.WideKeyEntry
import Derived.StringKeys
import Derived.Test.YthbcogekfdllmaaGreatZRf2
namespace Go.Proofs.YthbcogekfdllmaaGreat
open Go Go.RowKit
open Go.Maps (Keyed)
open Go.ChangeMaps Go.MapKept Go.WideShapes

theorem setBlock_grown {w : World} {b : Nat} {es es' : Array MapEntry} {clock clock' : Nat} (hb : w.heap[b]? = some (.map es clock)) : w.grownBy (setBlock w b (.map es' clock')) (some b) :=
  ⟨rfl, rfl, rfl, by simp [setBlock], fun i _ hi => heap_setBlock_other hb _ (fun e => hi (by rw [e]))⟩
theorem MapS.entry {w : World} {kt t e : TypeId} {b n : Nat} {f : ByteArray → Option Value} (h : MapS w kt b n f) (hk : Tryz.prog.underlying kt = some .string) (ht : Tryz.prog.underlying t = some (.map kt e)) {z : Value} (hz : ∀ u : World, (zeroValue e).run Tryz.prog u = .ok z u) (hn : n < maxLen) {s : ByteArray} (hs : s.size ≤ maxLen) :
    ∃ (v0 : Value) (st : Nat) (w1 : World), (Instr.mapEntry t (.map (some b)) (.string s)).run Tryz.prog w = .ok (.tuple #[v0, .int .i64 st]) w1 ∧ w.grownBy w1 (some b) ∧
      ∀ (w2 : World) (val : Value), w2.heap[b]? = w1.heap[b]? → ∃ w3, (Instr.entryStore t (.map (some b)) (.int .i64 st) val).run Tryz.prog w2 = .ok () w3 ∧ MapS w3 kt b (n + 1) (upd f s val) ∧ w2.grownBy w3 (some b) := by
  have h0 := h
  obtain ⟨D, ⟨es, clock, hb, F, hs0, hD⟩, h2⟩ := h
  obtain ⟨v0, st, es1, clock1, hrun, _, hst⟩ := Go.WideElems.entry_then_store (Go.WideMaps.string_law hk) ht hz hb F (keyOf_s hk hs)
  refine ⟨v0, st, _, hrun, setBlock_grown hb, fun w2 val hw2 => ?_⟩
  have hb1 : (setBlock w b (.map es1 clock1)).heap[b]? = some (.map es1 clock1) := heap_setBlock_same hb _
  rw [hb1] at hw2
  obtain ⟨es', clock', hs1, hs2⟩ := hst w2 val hw2
  obtain ⟨w', hu1, hu2, _⟩ := h0.update hk ht hn hs val
  rw [hs2] at hu1
  injection hu1 with _ hu1
  refine ⟨_, hs1, hu2.block ?_, setBlock_grown hw2⟩
  rw [heap_setBlock_same hw2, ← hu1, heap_setBlock_same hb]
end Go.Proofs.YthbcogekfdllmaaGreat
/-
  The reference's contest in memory; (*contest).ready by a contract.
-/
namespace Go.Proofs.YthbcogekfdllmaaGreat
open Go Go.RowKit
attribute [local go_sem ↓] Go.wp_at_zero Go.wp_at_succ

def qfH (G : QF) : ByteArray → Option Value := fun s => (G.hw s).map (fun c => .string (hwB c))
def qfE (G : QF) : ByteArray → Option Value := fun s => (G.en s).map (Value.int .i64)
/-- what holds of a contest on its way -/
structure KQ (G : QF) : Prop where
  nd : G.ks.Nodup
  sz : ∀ s ∈ G.ks, s.size ≤ 40
  iff : ∀ s, s ∈ G.ks ↔ (G.hw s).isSome = true
  c4 : ∀ s c, G.hw s = some c → c ≤ 4
theorem KQ.start : KQ qf0 := ⟨List.nodup_nil, (by intro s hs; cases hs), fun s => by simp [qf0], (fun s c h => by cases h)⟩
theorem KQ.keys {G : QF} (h : KQ G) : KeysM (qfH G) G.ks := ⟨h.nd, fun s hs => by have := h.sz s hs; unfold maxLen; omega, fun s _ => by rw [h.iff]; unfold qfH; simp⟩
theorem KQ.set {G : QF} (h : KQ G) {k : ByteArray} (hk : (G.hw k).isSome = true) (c : Nat) (hc : c ≤ 4) (g : ByteArray → Option Int) (a : Int) : KQ ⟨G.ks, setE G.hw k c, g, a⟩ := by
  refine ⟨h.nd, h.sz, fun s => ?_, fun s d hd => ?_⟩
  · show s ∈ G.ks ↔ (setE G.hw k c s).isSome = true
    by_cases e : s = k
    · subst e; rw [setE_same]; simp [h.iff, hk]
    · rw [setE_ne _ _ e]; exact h.iff s
  · have hd : setE G.hw k c s = some d := hd
    by_cases e : s = k
    · subst e; rw [setE_same] at hd; injection hd with hd; omega
    · rw [setE_ne _ _ e] at hd; exact h.c4 s d hd
theorem KQ.step {G G' : QF} (h : KQ G) {x : Stp} (hz : x.who.size ≤ 40) (hs : stpQ G x = some G') : KQ G' := by
  have hi : ∀ c, G.hw x.who = some c → (G.hw x.who).isSome = true := fun c hc => by rw [hc]; rfl
  have hmv : ∀ a b, b ≤ 4 → mvQ G x a b = some G' → KQ G' := fun a b hb h2 => by
    unfold mvQ at h2
    split at h2
    · rename_i h3; injection h2 with h2; subst h2; exact h.set (hi _ h3) b hb _ _
    · cases h2
  unfold stpQ at hs
  split at hs
  · split at hs
    · cases hs
    · rename_i hne
      injection hs with hs; subst hs
      have hnn : ¬ (G.hw x.who).isSome = true := fun h2 => hne (.inr (.inl h2))
      have hn : x.who ∉ G.ks := fun hm => hnn ((h.iff _).1 hm)
      refine ⟨List.nodup_append.2 ⟨h.nd, List.nodup_cons.2 ⟨List.not_mem_nil, List.nodup_nil⟩, fun a ha b hb e => ?_⟩, fun s hs => ?_, fun s => ?_, fun s c hc => ?_⟩
      · simp at hb; subst hb; subst e; exact hn ha
      · have hs : s ∈ G.ks ++ [x.who] := hs
        rcases List.mem_append.1 hs with hs | hs
        · exact h.sz s hs
        · simp at hs; subst hs; exact hz
      · show s ∈ G.ks ++ [x.who] ↔ (setE G.hw x.who 0 s).isSome = true
        by_cases e : s = x.who
        · subst e; rw [setE_same]; simp
        · rw [setE_ne _ _ e, List.mem_append, List.mem_singleton]; simp [e, h.iff]
      · have hc : setE G.hw x.who 0 s = some c := hc
        by_cases e : s = x.who
        · subst e; rw [setE_same] at hc; injection hc with hc; omega
        · rw [setE_ne _ _ e] at hc; exact h.c4 s c hc
  · split at hs
    · split at hs
      · cases hs
      · injection hs with hs; subst hs
        refine ⟨h.nd.filter _, fun s hs => h.sz s (List.mem_filter.1 hs).1, fun s => ?_, fun s c hc => ?_⟩
        · show s ∈ G.ks.filter _ ↔ ((if G.hw s = some 1 then some 2 else none) : Option Nat).isSome = true
          rw [List.mem_filter, h.iff]
          by_cases e : G.hw s = some 1
          · simp [e]
          · simp [e]
        · have hc : (if G.hw s = some 1 then some 2 else none) = some c := hc
          split at hc
          · injection hc with hc; omega
          · cases hc
    · split at hs
      · split at hs
        · cases hs
        · injection hs with hs; subst hs
          refine ⟨h.nd.filter _, fun s hs => h.sz s (List.mem_filter.1 hs).1, fun s => ?_, fun s c hc => ?_⟩
          · show s ∈ G.ks.filter _ ↔ (delE G.hw x.who s).isSome = true
            unfold delE
            by_cases e : s = x.who
            · simp [e]
            · simp [e, h.iff]
          · have hc : delE G.hw x.who s = some c := hc
            unfold delE at hc
            split at hc
            · cases hc
            · exact h.c4 s c hc
      · split at hs
        · split at hs
          · rename_i h3; injection hs with hs; subst hs
            exact h.set (by rcases h3 with h3 | h3 <;> exact hi _ h3) 2 (by decide) _ _
          · cases hs
        · split at hs
          · exact hmv 0 1 (by decide) hs
          · split at hs
            · exact hmv 1 0 (by decide) hs
            · split at hs
              · split at hs
                · cases hs
                · exact hmv 2 3 (by decide) hs
              · exact hmv 2 4 (by decide) hs
/-- what a contest is in memory -/
abbrev conL (g m N m2 N2 : Nat) (G : QF) (l : List Rsc) : List Rsc := rBlk g 91 #[.int .i64 G.at0, .map (some m), .map (some m2)] :: rMap 9 m N (qfH G) :: rMap 9 m2 N2 (qfE G) :: l
theorem hq_put {w W : World} {l : List Rsc} {g N : Nat} {f : ByteArray → Option Value} (hS : Sq w W (rMap 9 g N f :: l)) (hN : N ≤ 200000) {s : ByteArray} (hs : s.size ≤ 100000) (v : Value) :
    ∃ W', (Instr.mapUpdate 88 (.map (some g)) (.string s) v).run Tryz.prog W = .ok () W' ∧ Sq w W' (rMap 9 g (N + 1) (upd f s v) :: l) := by
  have h : MapS W 9 g N f := hS.head
  obtain ⟨W', h1, h2, h3⟩ := h.update Tryz.underlying9 Tryz.underlying88 (by unfold maxLen; omega) (s := s) (by unfold maxLen; omega) v
  exact ⟨W', h1, hS.mapSet h2 h3⟩
theorem zero_strM (w : World) : (zeroValue 9).run Tryz.prog w = .ok (.string ⟨#[]⟩) w := by kernel_rfl
theorem zero_intM (w : World) : (zeroValue 3).run Tryz.prog w = .ok (.int .i64 0) w := by kernel_rfl
theorem qfH_set (G : QF) (k : ByteArray) (c : Nat) (g : ByteArray → Option Int) (a : Int) (ks : List ByteArray) : upd (qfH G) k (.string (hwB c)) = qfH ⟨ks, setE G.hw k c, g, a⟩ := by
  funext s
  show _ = (setE G.hw k c s).map _
  unfold upd setE qfH
  split <;> rfl
theorem qfE_set (G : QF) (k : ByteArray) (b : Int) (h : ByteArray → Option Nat) (a : Int) (ks : List ByteArray) : upd (qfE G) k (.int .i64 b) = qfE ⟨ks, h, setE G.en k b, a⟩ := by
  funext s
  show _ = (setE G.en k b s).map _
  unfold upd setE qfE
  split <;> rfl
theorem qfH_del (G : QF) (k : ByteArray) (g : ByteArray → Option Int) (a : Int) (ks : List ByteArray) : delM (qfH G) k = qfH ⟨ks, delE G.hw k, g, a⟩ := by
  funext s
  show _ = (delE G.hw k s).map _
  unfold delM delE qfH
  split <;> rfl
/-- how many of the seen are ready -/
def cntRdy (G : QF) (seen : List ByteArray) : Nat := (seen.filter (fun t => decide (G.hw t = some 1))).length
theorem cntRdy_snoc (G : QF) (seen : List ByteArray) (s : ByteArray) : cntRdy G (seen ++ [s]) = if G.hw s = some 1 then cntRdy G seen + 1 else cntRdy G seen := by
  unfold cntRdy
  rw [List.filter_append, List.length_append]
  by_cases h : G.hw s = some 1
  · rw [if_pos h]; simp [h]
  · rw [if_neg h]; simp [h]
theorem cntRdy_le (G : QF) (seen : List ByteArray) : cntRdy G seen ≤ seen.length := List.length_filter_le _ _
set_option maxRecDepth 100000 in
set_option maxHeartbeats 1000000 in
theorem readyQ_calls (w0 : World) (g m N m2 N2 : Nat) (G : QF) (l : List Rsc) (w : World) (hS : Sq w0 w (conL g m N m2 N2 G l)) (hK : KQ G) (hN : N ≤ 100000) :
    Calls Tryz.prog 77 #[.pointer (some ⟨g, 0, none⟩)] w (BRet (.int .i64 ((rdyQ G).length : Int)) w) := by
  obtain ⟨d, hd⟩ : ∃ d, (rdyQ G).length = d := ⟨_, rfl⟩
  rw [hd]
  have HD := Lib.hid hd
  have HKQ := Lib.hid hK
  have hkn : G.ks.length ≤ N := (MapS.size_eq Tryz.underlying9 (show MapS w 9 m N (qfH G) from hS.nth 1 rfl) hK.keys).1
  have HKN := Lib.hid hkn
  have HM0 : MapS w 9 m N (qfH G) := hS.nth 1 rfl
  have hbG : Blk w g 91 #[.int .i64 G.at0, .map (some m), .map (some m2)] := hS.nth 0 rfl
  have cg := hbG.cell 1
  have hml := HM0.lt
  clear hS hd hK hkn hbG
  go_enter Tryz.func77, Tryz.ntmps77
  go_wp2_with (first
    | (at_range; refine wpList_range_map _ rfl _ 88 rfl 9 9 Tryz.underlying9 Tryz.underlying88 m N (qfH G) rfl HM0 ?_; intro w3 cnt0 hr0 hg0 hs0))
  go_frame
  obtain ⟨r, hr⟩ : ∃ r, r = w.heap.size := ⟨_, rfl⟩
  rw [← hr] at hr0 ⊢
  have hb3 : Below w.heap.size w w3 := ⟨hg0.os, hg0.tape, hg0.output, hg0.size, fun k hk => hg0.block k hk (by simp)⟩
  have hrw : ¬ r < w.heap.size := by omega
  have HRW := Lib.hid hrw
  clear hg0 hs0 cg HM0 hr hrw
  go_loopw [3] (fun n3 wq => ∃ (seen : List ByteArray) (cnt : Nat), n3 = .int .i64 (cntRdy G seen : Int) ∧ Hid (∀ s ∈ seen, s ∈ G.ks) ∧ RngS wq 9 m r N (qfH G) seen cnt ∧ Below w.heap.size w wq) (fun _ wq => wq.rangeLeft m r)
  case atStart => exact ⟨[], cnt0, rfl, Lib.hid (fun s hs => by cases hs), hr0, hb3⟩
  case round =>
    clear hr0 hb3
    obtain ⟨seen, cnt, rfl, HM, hrg, hbl⟩ := hrel
    have hle := cntRdy_le G seen
    have hlen : seen.length ≤ G.ks.length := seen_leR seen G.ks hrg.nodup HM.out
    have hln : seen.length ≤ N := Nat.le_trans hlen HKN.out
    go_wp2_with (first
      | (at_next; refine wpList_next_map _ rfl _ rfl 9 Tryz.underlying9 m r N (qfH G) seen cnt rfl hrg ?_ ?_))
    · intro hdone
      have hp := HKQ.out.keys.seen hrg.nodup HM.out hdone
      have e1 : cntRdy G seen = d := by
        unfold cntRdy
        rw [← HD.out, (hp.filter _).length_eq]
        rfl
      have E1 := Lib.hid e1
      clear hrg hdone hp e1
      go_wp2_with fail
      go_ret
      exact ⟨by rw [E1.out]; rfl, hbl⟩
    · intro s v w4 cnt2 hnew hsl hf hrg2 hlt2 hg2 hs2 hen
      obtain ⟨c, he, rfl⟩ := Option.map_eq_some_iff.1 hf
      have hsk : s ∈ G.ks := (HKQ.out.iff s).2 (by rw [he]; rfl)
      have hc4 : c ≤ 4 := HKQ.out.c4 s c he
      have hl2 : wr.rangeLeft m r = cnt := hrg.left
      obtain ⟨hb, hhb⟩ : ∃ hb, hb = hwB c := ⟨_, rfl⟩
      have hBB := litB hb [114, 101, 97, 100, 121] (hwB 1) rfl
      have hen2 : (Instr.entry (.pointer (some ⟨r, 0, none⟩))).run Tryz.prog w4 = .ok (.tuple #[.string s, .string hb]) w4 := by rw [hhb]; exact hen
      have HM2 : Hid (∀ x ∈ seen ++ [s], x ∈ G.ks) := Lib.hid (fun x hx => by
        rcases List.mem_append.1 hx with hx | hx
        · exact HM.out x hx
        · simp at hx; subst hx; exact hsk)
      have hb4 : Below w.heap.size w w4 := hbl.grown hg2 hbl.size (fun k hk => by injection hk with hk; subst hk; have := HRW.out; omega)
      have hsn := cntRdy_snoc G seen s
      by_cases h1 : c = 1
      · have hB1 : (hb.toList == [114, 101, 97, 100, 121]) = true := hBB.trans (decide_eq_true (by rw [hhb, h1]))
        rw [if_pos (by rw [he, h1])] at hsn
        have HSN := Lib.hid hsn
        clear hrg hg2 hs2 hf hen hnew HM hhb hBB he h1 hsn hbl hlen
        go_wp2_with fail
        go_roundw
        case rel => exact ⟨seen ++ [s], cnt2, by rw [HSN.out]; go_num, HM2, hrg2, hb4⟩
        case measure => rw [hrg2.left, hl2]; exact hlt2
      · have hB1 : (hb.toList == [114, 101, 97, 100, 121]) = false := hBB.trans (decide_eq_false (fun h => h1 (hwB_inj hc4 (by omega) (hhb ▸ h))))
        rw [if_neg (by rw [he]; intro h; injection h with h; exact h1 h)] at hsn
        have HSN := Lib.hid hsn
        clear hrg hg2 hs2 hf hen hnew HM hhb hBB he h1 hsn hbl hlen
        go_wp2_with fail
        go_roundw
        case rel => exact ⟨seen ++ [s], cnt2, by rw [HSN.out], HM2, hrg2, hb4⟩
        case measure => rw [hrg2.left, hl2]; exact hlt2
end Go.Proofs.YthbcogekfdllmaaGreat

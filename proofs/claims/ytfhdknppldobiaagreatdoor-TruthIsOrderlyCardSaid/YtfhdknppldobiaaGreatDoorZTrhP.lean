/-
  Rules that are put together of parts, compared: each implies what is weaker, and so on, in plain words. No Go text is walked here.
-/
import Derived.Test.YtfhdknppldobiaaGreatDoorZChc2
import Derived.Test.YtfhdknppldobiaaGreatDoorZRulX
import Derived.Test.YtfhdknppldobiaaGreatDoorZHld3
namespace Go.Proofs.YtfhdknppldobiaaGreatDoor
open Go Go.RowKit TxtP

/-- a right rule of the stream's atoms -/
structure PX (s : ByteArray) (x : Rx) : Prop where
  rx : RXs numF s x
  sz : s.size ≤ 2000
  dep : depX x ≤ 21
  ats : ∀ a ∈ atsX x, a ∈ tenA
theorem PX.ok {s : ByteArray} {x : Rx} (h : PX s x) : parseE numF s = (0, 0) ∧ flat (parseT numF s).1 = treeX x := h.rx.check numF_ok h.sz h.dep
theorem PX.p0 {s : ByteArray} {x : Rx} (h : PX s x) : (parseE numF s).2 = 0 := by rw [h.ok.1]
theorem nodup_le {α : Type} [DecidableEq α] : ∀ (l m : List α), l.Nodup → (∀ z ∈ l, z ∈ m) → l.length ≤ m.length
  | [], _, _, _ => Nat.zero_le _
  | a :: l, m, hn, h => by
    have ha := h a (List.mem_cons_self ..)
    rw [List.nodup_cons] at hn
    have ih := nodup_le l (m.erase a) hn.2 (fun z hz => (List.mem_erase_of_ne (fun e => hn.1 (by rw [← e]; exact hz))).2 (h z (List.mem_cons_of_mem _ hz)))
    have hl := List.length_erase_of_mem ha
    have hp := List.length_pos_of_mem ha
    rw [List.length_cons]
    omega
theorem ris_nodup {hs : List ByteArray} (h : RisS hs) : hs.Nodup := h.imp (fun {a b} h e => by
  subst e
  rw [bl_irr] at h
  cases h)
theorem frL_mem (ls : List BL) (z : ByteArray) : z ∈ frL ls ↔ (∃ y ∈ ls, mkS y = z) ∧ z ≠ sTrue := by
  unfold frL kptS isT
  rw [List.mem_filter, List.mem_map]
  constructor
  · rintro ⟨⟨y, hy, e⟩, h⟩
    exact ⟨⟨y, ((comp_ok ls).1 y).1 hy, e⟩, by simpa using h⟩
  · rintro ⟨⟨y, hy, e⟩, h⟩
    exact ⟨⟨y, ((comp_ok ls).1 y).2 hy, e⟩, by simpa using h⟩
theorem PX.at1 {s : ByteArray} {x : Rx} (h : PX s x) (y : BL) : y ∈ atS1 s ↔ ∃ a ∈ atsX x, y = (txtA a).data.toList := by
  unfold atS1
  rw [h.ok.2]
  exact ats_tree x y
theorem mk_data (x : ByteArray) : mkS x.data.toList = x := ba_of x
theorem fr_le {ss : List ByteArray} (h : ∀ s ∈ ss, ∃ x, PX s x) : (frS ss).length ≤ 10 := by
  have hn : (frS ss).Nodup := ris_nodup (frL_ris _)
  refine Nat.le_trans (nodup_le _ (tenA.map txtA) hn (fun z hz => ?_)) (by decide)
  obtain ⟨⟨y, hy, rfl⟩, _⟩ := (frL_mem _ z).1 hz
  obtain ⟨s, hs, hy⟩ := List.mem_flatMap.1 hy
  obtain ⟨x, hx⟩ := h s hs
  obtain ⟨a, ha, rfl⟩ := (hx.at1 y).1 hy
  rw [mk_data]
  exact List.mem_map.2 ⟨a, hx.ats a ha, rfl⟩
theorem PX.ev {s : ByteArray} {x : Rx} (h : PX s x) (ns : List ByteArray) (m : Nat) : evS ns m s = evX (isM ns m) x := by
  unfold evS
  rw [h.ok.2]
  exact tru_tree _ x
theorem nevE_px {p q : ByteArray} {x y : Rx} (hp : PX p x) (hq : PX q y) : nevE [(tre p, true), (tre q, false)] = 0 ∧ ¬ 12 < (frS [p, q]).length := by
  have h := fr_le (ss := [p, q]) (fun s hs => by
    simp at hs
    rcases hs with rfl | rfl
    · exact ⟨_, hp⟩
    · exact ⟨_, hq⟩)
  refine ⟨?_, by omega⟩
  rw [← freE_two hp.p0 hq.p0]
  unfold freE
  rw [if_neg (by omega)]
theorem imp_px {p q : ByteArray} {x y : Rx} (hp : PX p x) (hq : PX q y) : impE p q = 0 ∧ impB p q = (List.range (2 ^ (frS [p, q]).length)).all fun m => !evX (isM (frS [p, q]) m) x || evX (isM (frS [p, q]) m) y := by
  have ht : twE p q = 0 := by unfold twE; rw [if_pos hp.p0, hq.p0]
  obtain ⟨h1, h2⟩ := nevE_px hp hq
  refine ⟨by unfold impE; rw [if_pos ht, h1], ?_⟩
  unfold impB
  rw [if_pos ht, ← imp_both hp.p0 hq.p0 h2]
  refine all_ext _ (fun m => ?_)
  unfold soI
  rw [hp.ev, hq.ev]
theorem nvr_px {p : ByteArray} {x : Rx} (hp : PX p x) : nvrE p = 0 ∧ nvrB p = (List.range (2 ^ (frS [p]).length)).all fun m => !evX (isM (frS [p]) m) x := by
  have h := fr_le (ss := [p]) (fun s hs => by
    simp at hs
    subst hs
    exact ⟨_, hp⟩)
  have h1 : nevE [(tre p, true)] = 0 := by
    rw [← freE_one hp.p0]
    unfold freE
    rw [if_neg (by omega)]
  refine ⟨by unfold nvrE; rw [if_pos hp.p0, h1], ?_⟩
  unfold nvrB
  rw [if_pos hp.p0, ← nvr_both hp.p0 (by omega)]
  refine all_ext _ (fun m => ?_)
  unfold soN
  rw [hp.ev]
theorem fr_swap (p q : ByteArray) : frS [p, q] = frS [q, p] := by
  unfold frS frL
  simp only [List.flatMap_cons, List.flatMap_nil, List.append_nil]
  have : Lib.compact (srtL (atS1 p ++ atS1 q)) = Lib.compact (srtL (atS1 q ++ atS1 p)) := comp_one (fun x => by
    rw [List.mem_append, List.mem_append]
    exact Or.comm)
  rw [this]
theorem sm_px {p q : ByteArray} {x y : Rx} (hp : PX p x) (hq : PX q y) : smB p q = (impB p q && impB q p) := by
  have ht : twE p q = 0 := by unfold twE; rw [if_pos hp.p0, hq.p0]
  obtain ⟨h1, h2⟩ := nevE_px hp hq
  have e : smB p q = (nevB [(tre p, true), (tre q, false)] && nevB [(tre p, false), (tre q, true)]) := by
    unfold smB
    rw [if_pos ht, h1]
    cases nevB [(tre p, true), (tre q, false)] <;> simp
  rw [e, ← sm_both hp.p0 hq.p0 h2, (imp_px hp hq).2, (imp_px hq hp).2, ← fr_swap p q, ← all_and2]
  refine all_ext _ (fun m => ?_)
  unfold soS
  rw [hp.ev, hq.ev]
  generalize evX (isM (frS [p, q]) m) x = u
  generalize evX (isM (frS [p, q]) m) y = v
  cases u <;> cases v <;> rfl
/-- each way that atoms can hold is a choice -/
theorem mask_of {ns : List ByteArray} (h : RisS ns) (p : ByteArray → Bool) : ∃ m, m < 2 ^ ns.length ∧ (∀ s ∈ ns, isM ns m s = p s) ∧ ∀ s, s ∉ ns → isM ns m s = true := by
  obtain ⟨m, hm, hb⟩ := ex_set (fun k => p (ns.getD k noB)) ns.length
  refine ⟨m, hm, fun s hs => ?_, fun s hs => ?_⟩
  · obtain ⟨k, hk, rfl⟩ := List.getElem_of_mem hs
    unfold isM
    rw [bin_found h hk rfl, if_neg (by omega), Int.toNat_natCast, hb k hk]
    simp [List.getD_eq_getElem?_getD, hk]
  · unfold isM
    rw [ixOf_no _ ns (fun i hi => ?_), if_pos (by decide)]
    unfold eqS
    rw [beq_eq_false_iff_ne]
    intro e
    refine hs ?_
    have e2 : s = ns[i] := by rw [Lib.toList_data, Lib.toList_data] at e; exact ba_inj e
    rw [e2]
    exact List.getElem_mem hi
theorem hld_px {p : ByteArray} {x : Rx} (hp : PX p x) {r : Rn} (h0 : runF r = 0) : hldV numF p r = evX (isH r.time r.fs) x := by
  have hr : rulE numF p r = 0 := by unfold rulE; rw [if_pos hp.p0, h0]
  rw [hld_both numF_ok numF_z (isH r.time r.fs) hr hp.p0 (hdq_atoms hr), hp.ok.2]
  exact tru_tree _ x
theorem imp_run {p q : ByteArray} {x y : Rx} (hp : PX p x) (hq : PX q y) {r : Rn} (h0 : runF r = 0) (hi : impB p q = true) (h : hldV numF p r = true) : hldV numF q r = true := by
  rw [hld_px hp h0] at h
  rw [hld_px hq h0]
  rw [(imp_px hp hq).2, List.all_eq_true] at hi
  obtain ⟨m, hm, hb1, hb2⟩ := mask_of (frL_ris ([p, q].flatMap atS1)) (isH r.time r.fs)
  have hm2 := hi m (List.mem_range.2 hm)
  have hat : ∀ (s : ByteArray) (z : Rx), PX s z → s ∈ [p, q] → ∀ a ∈ atsX z, isM (frS [p, q]) m (txtA a) = isH r.time r.fs (txtA a) := fun s z hs hm a ha => by
    by_cases ht : txtA a = sTrue
    · rw [ht, isH_true]
      exact hb2 _ (fun hx => ((frL_mem _ _).1 hx).2 rfl)
    · exact hb1 _ ((frL_mem _ _).2 ⟨⟨_, List.mem_flatMap.2 ⟨s, hm, (hs.at1 _).2 ⟨a, ha, rfl⟩⟩, mk_data _⟩, ht⟩)
  have e1 := ev_congr x (hat p x hp (by simp))
  have e2 := ev_congr y (hat q y hq (by simp))
  rw [e1, e2, h] at hm2
  simpa using hm2
theorem PX.of {a : ByteArray} {x : Rx} (h : RgR 2 a x) : PX a x := by
  have h1 := h.sz
  have h2 := h.dep
  have h3 : wR 2 = 143 := by decide
  exact ⟨h.rx, by omega, by omega, h.ats⟩
theorem px_or {a b s : ByteArray} {x y : Rx} (ha : RgR 2 a x) (hb : RgR 2 b y) (e : s.data.toList = [40] ++ a.data.toList ++ [41, 32, 111, 114, 32, 40] ++ b.data.toList ++ [41]) : PX s (.orC (.par x) (.par y)) := by
  have h1 := ha.sz
  have h2 := ha.dep
  have h4 := hb.sz
  have h5 := hb.dep
  have h3 : wR 2 = 143 := by decide
  rw [data_size] at h1 h4
  have r1 : RXs numF (baOf ([40] ++ a.data.toList ++ [41])) (.par x) := ha.rx.par (baOf_data _)
  have r2 : RXs numF (baOf ([40] ++ b.data.toList ++ [41])) (.par y) := hb.rx.par (baOf_data _)
  have r3 : RXs numF s (orO (.par x) (.par y)) := r1.or r2 (by rw [e, baOf_data, baOf_data]; simp)
  refine ⟨r3, ?_, by simp only [depX]; omega, fun z hz => ?_⟩
  · rw [data_size, e]
    simp only [List.length_append, List.length_cons, List.length_nil]
    omega
  · simp only [atsX, List.mem_append] at hz
    exact hz.elim (ha.ats z) (hb.ats z)
theorem px_and {a b s : ByteArray} {x y : Rx} (ha : RgR 2 a x) (hb : RgR 2 b y) (e : s.data.toList = [40] ++ a.data.toList ++ [41, 32, 97, 110, 100, 32, 40] ++ b.data.toList ++ [41]) : PX s (.andC (.par x) (.par y)) := by
  have h1 := ha.sz
  have h2 := ha.dep
  have h4 := hb.sz
  have h5 := hb.dep
  have h3 : wR 2 = 143 := by decide
  rw [data_size] at h1 h4
  have r1 : RXs numF (baOf ([40] ++ a.data.toList ++ [41])) (.par x) := ha.rx.par (baOf_data _)
  have r2 : RXs numF (baOf ([40] ++ b.data.toList ++ [41])) (.par y) := hb.rx.par (baOf_data _)
  have r3 : RXs numF s (andO (.par x) (.par y)) := r1.and r2 (by rw [e, baOf_data, baOf_data]; simp)
  refine ⟨r3, ?_, by simp only [depX]; omega, fun z hz => ?_⟩
  · rw [data_size, e]
    simp only [List.length_append, List.length_cons, List.length_nil]
    omega
  · simp only [atsX, List.mem_append] at hz
    exact hz.elim (ha.ats z) (hb.ats z)
theorem px_not {a s : ByteArray} {x : Rx} (ha : RgR 2 a x) (e : s.data.toList = [40] ++ a.data.toList ++ [41, 32, 97, 110, 100, 32, 110, 111, 116, 32, 40] ++ a.data.toList ++ [41]) : PX s (.andC (.par x) (.not (.par x))) := by
  have h1 := ha.sz
  have h2 := ha.dep
  have h3 : wR 2 = 143 := by decide
  rw [data_size] at h1
  have r1 : RXs numF (baOf ([40] ++ a.data.toList ++ [41])) (.par x) := ha.rx.par (baOf_data _)
  have r2 : RXs numF (baOf ([110, 111, 116, 32] ++ ([40] ++ a.data.toList ++ [41]))) (notO (.par x)) := r1.not (by rw [baOf_data, baOf_data])
  have r3 : RXs numF s (andO (.par x) (notO (.par x))) := r1.and r2 (by rw [e, baOf_data, baOf_data]; simp)
  refine ⟨r3, ?_, by simp only [depX]; omega, fun z hz => ?_⟩
  · rw [data_size, e]
    simp only [List.length_append, List.length_cons, List.length_nil]
    omega
  · simp only [atsX, List.mem_append] at hz
    exact hz.elim (ha.ats z) (ha.ats z)
/-- the law's facts -/
theorem trh_law {a b s1 s2 s3 : ByteArray} (ha : RgS 2 a) (hb : RgS 2 b) (e1 : s1.data.toList = [40] ++ a.data.toList ++ [41, 32, 111, 114, 32, 40] ++ b.data.toList ++ [41]) (e2 : s2.data.toList = [40] ++ a.data.toList ++ [41, 32, 97, 110, 100, 32, 40] ++ b.data.toList ++ [41])
    (e3 : s3.data.toList = [40] ++ a.data.toList ++ [41, 32, 97, 110, 100, 32, 110, 111, 116, 32, 40] ++ a.data.toList ++ [41]) :
    (impE a s1 = 0 ∧ impB a s1 = true) ∧ (impE s2 b = 0 ∧ impB s2 b = true) ∧ (nvrE s3 = 0 ∧ nvrB s3 = true) ∧ impE a b = 0 ∧ impE b a = 0 ∧ smB a b = (impB a b && impB b a) ∧
      (∀ r, runF r = 0 → rulE numF a r = 0 ∧ rulE numF b r = 0 ∧ (impB a b = true → hldV numF a r = true → hldV numF b r = true)) ∧ a.size ≤ 2000 ∧ b.size ≤ 2000 ∧ s1.size ≤ 2000 ∧ s2.size ≤ 2000 ∧ s3.size ≤ 2000 := by
  obtain ⟨x, ha⟩ := ha
  obtain ⟨y, hb⟩ := hb
  have p1 := px_or ha hb e1
  have p2 := px_and ha hb e2
  have p3 := px_not ha e3
  have pa := PX.of ha
  have pb := PX.of hb
  refine ⟨⟨(imp_px pa p1).1, ?_⟩, ⟨(imp_px p2 pb).1, ?_⟩, ⟨(nvr_px p3).1, ?_⟩, (imp_px pa pb).1, (imp_px pb pa).1, sm_px pa pb, fun r h0 => ⟨?_, ?_, fun h1 h2 => imp_run pa pb h0 h1 h2⟩, pa.sz, pb.sz, p1.sz, p2.sz, p3.sz⟩
  · rw [(imp_px pa p1).2, List.all_eq_true]
    intro m _
    show (!(evX (isM (frS [a, s1]) m) x) || (evX (isM (frS [a, s1]) m) x || evX (isM (frS [a, s1]) m) y)) = true
    generalize evX (isM (frS [a, s1]) m) x = u
    generalize evX (isM (frS [a, s1]) m) y = v
    cases u <;> cases v <;> rfl
  · rw [(imp_px p2 pb).2, List.all_eq_true]
    intro m _
    show (!(evX (isM (frS [s2, b]) m) x && evX (isM (frS [s2, b]) m) y) || evX (isM (frS [s2, b]) m) y) = true
    generalize evX (isM (frS [s2, b]) m) x = u
    generalize evX (isM (frS [s2, b]) m) y = v
    cases u <;> cases v <;> rfl
  · rw [(nvr_px p3).2, List.all_eq_true]
    intro m _
    show (!(evX (isM (frS [s3]) m) x && !(evX (isM (frS [s3]) m) x))) = true
    generalize evX (isM (frS [s3]) m) x = u
    cases u <;> rfl
  · unfold rulE; rw [if_pos pa.p0, h0]
  · unfold rulE; rw [if_pos pb.p0, h0]
end Go.Proofs.YtfhdknppldobiaaGreatDoor

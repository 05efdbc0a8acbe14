/-
  A map of the call's own with strings for keys, whatever its elements: MapS says what stands at each key. No Go text is named here.
-/
import Derived.Test.YthbcogekfdllmaaGreatDoorProg
import Derived.Test.YthbcogekfdllmaaGreatDoorZBs
import Derived.Maps.OwnSet
import Derived.Maps.OwnOps
import Derived.Maps.Views
import Derived.Test.YthbcogekfdllmaaGreatDoorZLivePure
import Derived.Test.YthbcogekfdllmaaGreatDoorZSlot3
import Derived.Deep.RegionHeld3
import Derived.RegionTactic
import Derived.ChangeAlike
namespace Go.Proofs.YthbcogekfdllmaaGreatDoor
open Go Go.RowKit
open Go.Maps (Keyed)

/-- an element stands for itself -/
def tokR (v : Value) : Option (DataW Value × List MemPlace) := some (.held v, [])
def kLit (s : ByteArray) : Lit := .string s.data.toList
theorem kLit_inj {s t : ByteArray} (h : kLit s = kLit t) : s = t := by
  unfold kLit at h
  injection h with h
  cases s; cases t
  congr
  exact Array.toList_inj.1 h
/-- block b of w is a map from strings (type kt) with at most n entries; f s: what stands at s -/
def MapS (w : World) (kt : TypeId) (b n : Nat) (f : ByteArray → Option Value) : Prop :=
  ∃ D : DataW Value, w.ownsMap Tryz.prog kt tokR b n D ∧ ∀ s : ByteArray, s.size ≤ maxLen → Maps.has D (kLit s) = (f s).isSome ∧ ∀ z : Value, D.atKey (kLit s) (.held z) = .held ((f s).getD z)
def upd (f : ByteArray → Option Value) (s : ByteArray) (v : Value) : ByteArray → Option Value := fun t => if t = s then some v else f t
theorem keyOf_s {kt : TypeId} (hk : Tryz.prog.underlying kt = some .string) {s : ByteArray} (hs : s.size ≤ maxLen) : keyOf Tryz.prog kt (.string s) = some (kLit s) := WideMaps.keyOf_string_mk hk hs
section
variable {w w' : World} {kt t e : TypeId} {b n : Nat} {f : ByteArray → Option Value}
theorem MapS.made (w : World) (kt : TypeId) : MapS (w.alloc (.map #[] 0)) kt w.heap.size 0 (fun _ => none) :=
  ⟨_, World.ownsMap_made w _ kt tokR, fun _ _ => ⟨rfl, fun _ => rfl⟩⟩
theorem MapS.mono (h : MapS w kt b n f) {n' : Nat} (hn : n ≤ n') : MapS w kt b n' f := by
  obtain ⟨D, h1, h2⟩ := h
  exact ⟨D, h1.mono hn, h2⟩
theorem MapS.lt (h : MapS w kt b n f) : b < w.heap.size := by
  obtain ⟨D, h1, _⟩ := h
  exact h1.lt
theorem MapS.block (h : MapS w kt b n f) (hb : w'.heap[b]? = w.heap[b]?) : MapS w' kt b n f := by
  obtain ⟨D, ⟨es, clock, h0, h1⟩, h2⟩ := h
  exact ⟨D, ⟨es, clock, hb.trans h0, h1⟩, h2⟩
theorem MapS.below (h : MapS w kt b n f) (hb : Below w.heap.size w w') : MapS w' kt b n f := h.block (hb.block b h.lt)
theorem tok_inv {v : Value} {z : DataW Value} {ps : List MemPlace} (h : tokR v = some (z, ps)) : z = .held v := by
  unfold tokR at h
  injection h with h
  exact (Prod.mk.inj h).1.symm
/-- 'm[k]' -/
theorem MapS.look (h : MapS w kt b n f) (hk : Tryz.prog.underlying kt = some .string) (ht : Tryz.prog.underlying t = some (.map kt e)) {z : Value} (hz : (zeroValue e).run Tryz.prog w = .ok z w) {s : ByteArray} (hs : s.size ≤ maxLen) :
    (Instr.lookup t (.map (some b)) (.string s) false).run Tryz.prog w = .ok ((f s).getD z) w := by
  obtain ⟨D, h1, h2⟩ := h
  obtain ⟨v, ps, hrun, hv⟩ := h1.lookup (Maps.string_keyed hk) ht hz (zd := .held z) (zp := []) rfl (keyOf_s hk hs)
  have he : DataW.held ((f s).getD z) = DataW.held v := ((h2 s hs).2 z).symm.trans (tok_inv hv)
  have he2 : (f s).getD z = v := DataW.held.inj he
  rw [he2]
  exact hrun
theorem MapS.update (h : MapS w kt b n f) (hk : Tryz.prog.underlying kt = some .string) (ht : Tryz.prog.underlying t = some (.map kt e)) (hn : n < maxLen) {s : ByteArray} (hs : s.size ≤ maxLen) (v : Value) :
    ∃ w', (Instr.mapUpdate t (.map (some b)) (.string s) v).run Tryz.prog w = .ok () w' ∧ MapS w' kt b (n + 1) (upd f s v) ∧ w.grownBy w' (some b) := by
  obtain ⟨D, h1, h2⟩ := h
  obtain ⟨w', hrun, h3, h4⟩ := h1.update (Maps.string_keyed hk) ht hn (keyOf_s hk hs) (val := v) (d := .held v) (ps := []) rfl
  refine ⟨w', hrun, ⟨_, h3, fun x hx => ?_⟩, h4⟩
  by_cases he : x = s
  · subst he
    have hm : Maps.IsMap D := h1.isMap
    simp only [upd, if_true]
    exact ⟨by rw [Maps.has_put_same hm (by trivial)]; rfl, fun z => by rw [Maps.atKey_put_same hm (by trivial)]; rfl⟩
  · have hne : kLit x ≠ kLit s := fun h => he (kLit_inj h)
    simp only [upd, if_neg he]
    exact ⟨by rw [Maps.has_put_other hne]; exact (h2 x hx).1, fun z => by rw [Maps.atKey_put_other hne]; exact (h2 x hx).2 z⟩
end
/-- a map as a resource -/
def rMap (kt : TypeId) (b n : Nat) (f : ByteArray → Option Value) : Rsc := ⟨fun W => MapS W kt b n f, fun k => k = b⟩
theorem rMap_ok (kt : TypeId) (b n : Nat) (f : ByteArray → Option Value) : (rMap kt b n f).Ok := fun _ _ h hp => hp.block (h b rfl)
theorem Sq.addMap {w W : World} {l : List Rsc} (h : Sq w W l) (kt : TypeId) : Sq w (W.alloc (.map #[] 0)) (rMap kt W.heap.size 0 (fun _ => none) :: l) :=
  h.new_ ((Below.refl _ _).alloc (Nat.le_refl _) _) (MapS.made W kt) (rMap_ok _ _ _ _) (fun g hg => by
    have hg : g = W.heap.size := hg
    subst hg
    exact ⟨Nat.le_refl _, by simp⟩)
theorem Sq.mapSet {w W W' : World} {l : List Rsc} {kt : TypeId} {g n n' : Nat} {f f' : ByteArray → Option Value} (h : Sq w W (rMap kt g n f :: l)) (hm : MapS W' kt g n' f') (hg : W.grownBy W' (some g)) : Sq w W' (rMap kt g n' f' :: l) :=
  h.turn hg (fun k hk => by injection hk with hk; exact hk.symm) hm (rMap_ok _ _ _ _) (fun k hk => by
    have hk : k = g := hk
    subst hk
    exact ⟨.inl rfl, hm.lt⟩)
end Go.Proofs.YthbcogekfdllmaaGreatDoor
/-
  marathon.(*show).step by a contract: it answers as stepP. (Printed by gen_live1.py.)
-/
namespace Go.Proofs.YthbcogekfdllmaaGreatDoor
open Go Go.RowKit
attribute [local go_sem ↓] Go.wp_at_zero Go.wp_at_succ

def stgV (s : Stg) : Value := .agg #[.bool s.began, .bool s.ended, .bool s.out, .int .i64 s.at_, .int .i64 s.end_]
/-- a map of stages -/
def MapT (w : World) (b n : Nat) (st : ByteArray → Stg) : Prop := ∃ f, MapS w 9 b n f ∧ ∀ s, (f s).getD (stgV stgD) = stgV (st s)
def rStg (g n : Nat) (st : ByteArray → Stg) : Rsc := ⟨fun W => MapT W g n st, fun k => k = g⟩
theorem rStg_ok (g n : Nat) (st : ByteArray → Stg) : (rStg g n st).Ok := by
  intro W W' h hp
  obtain ⟨f, h1, h2⟩ := hp
  exact ⟨f, h1.block (h g rfl), h2⟩
theorem zero_stg (w : World) : (zeroValue 159).run Tryz.prog w = .ok (stgV stgD) w := by kernel_rfl
theorem MapT.look {w : World} {b n : Nat} {st : ByteArray → Stg} (h : MapT w b n st) {s : ByteArray} (hs : s.size ≤ maxLen) :
    (Instr.lookup 160 (.map (some b)) (.string s) false).run Tryz.prog w = .ok (.agg #[.bool (st s).began, .bool (st s).ended, .bool (st s).out, .int .i64 (st s).at_, .int .i64 (st s).end_]) w := by
  obtain ⟨f, h1, h2⟩ := h
  have := h1.look Tryz.underlying9 Tryz.underlying160 (zero_stg w) hs
  rw [h2] at this
  exact this
theorem MapT.mono {w : World} {b n n' : Nat} {st : ByteArray → Stg} (h : MapT w b n st) (hn : n ≤ n') : MapT w b n' st := by
  obtain ⟨f, h1, h2⟩ := h
  exact ⟨f, h1.mono hn, h2⟩
theorem MapT.below {w w' : World} {b n : Nat} {st : ByteArray → Stg} (h : MapT w b n st) (hb : Below w.heap.size w w') : MapT w' b n st := by
  obtain ⟨f, h1, h2⟩ := h
  exact ⟨f, h1.below hb, h2⟩
theorem stg_upd {f : ByteArray → Option Value} {st : ByteArray → Stg} (h2 : ∀ s, (f s).getD (stgV stgD) = stgV (st s)) (k : ByteArray) (v : Stg) : ∀ s, (upd f k (stgV v) s).getD (stgV stgD) = stgV (setSt st k v s) := by
  intro s
  by_cases he : s = k
  · subst he; simp [upd, setSt]
  · simp [upd, setSt, he, h2]
theorem Sq.stgSet {w W W' : World} {l : List Rsc} {g n n' : Nat} {st st' : ByteArray → Stg} (h : Sq w W (rStg g n st :: l)) (hm : MapT W' g n' st') (hg : W.grownBy W' (some g)) : Sq w W' (rStg g n' st' :: l) :=
  h.turn hg (fun k hk => by injection hk with hk; exact hk.symm) hm (rStg_ok _ _ _) (fun k hk => by
    have hk : k = g := hk
    subst hk
    obtain ⟨f, h1, _⟩ := hm
    exact ⟨.inl rfl, h1.lt⟩)
theorem Sq.stgMore {w W : World} {l : List Rsc} {g n n' : Nat} {st : ByteArray → Stg} (h : Sq w W (rStg g n st :: l)) (hn : n ≤ n') : Sq w W (rStg g n' st :: l) :=
  ⟨h.below, h.hp.tail.cons (MapT.mono h.head hn) (rStg_ok _ _ _) (fun k hk => h.hp.new _ (List.mem_cons_self ..) k hk) (fun s hs k hk hk2 => (List.pairwise_cons.1 h.hp.apart).1 s hs k hk hk2)⟩
/-- what a show is in memory -/
abbrev shL (B gs gm N : Nat) (A : Option Addr) (c : Nat) (S : ShowP) (l : List Rsc) : List Rsc :=
  rBlk gs 162 #[.map (some gm), .slice A S.order.length c, .bool S.on] :: rStg gm N S.st :: rOwn B 9 1 (.slice A S.order.length c) S.order.length (strsV S.order) :: l
def StepS (w0 : World) (B gs gm N : Nat) (S : ShowP) (y : Lv) (l : List Rsc) (e : Ending) (w' : World) : Prop :=
  ∃ A' c', e = .returned (.bool (stepP S y).isSome) ∧ Sq w0 w' (shL B gs gm (N + 1) A' c' ((stepP S y).getD S) l)

theorem strsV_snoc (l : List ByteArray) (k : ByteArray) : strsV (l ++ [k]) = strsV l ++ [.string k] := by simp [strsV]
theorem step_no {w0 W : World} {B gs gm N n c : Nat} {A : Option Addr} {S : ShowP} {y : Lv} {l : List Rsc} {on : Bool} (h : stepP S y = none) (hn : S.order.length = n ∧ S.on = on)
    (hS : Sq w0 W (rBlk gs 162 #[.map (some gm), .slice A n c, .bool on] :: rStg gm N S.st :: rOwn B 9 1 (.slice A n c) n (strsV S.order) :: l)) : StepS w0 B gs gm N S y l (.returned (.bool false)) W := by
  obtain ⟨rfl, rfl⟩ := hn
  refine ⟨A, c, by rw [h]; rfl, ?_⟩
  rw [h]
  exact ((hS.front 1 rfl rfl).stgMore (n' := N + 1) (by omega)).front 1 rfl rfl
theorem step_yes {w0 W : World} {B gs gm N n c : Nat} {A : Option Addr} {S S' : ShowP} {y : Lv} {l : List Rsc} {on : Bool} (h : stepP S y = some S') (hn : S'.order.length = n ∧ S'.on = on)
    (hS : Sq w0 W (rBlk gs 162 #[.map (some gm), .slice A n c, .bool on] :: rStg gm (N + 1) S'.st :: rOwn B 9 1 (.slice A n c) n (strsV S'.order) :: l)) : StepS w0 B gs gm N S y l (.returned (.bool true)) W := by
  obtain ⟨rfl, rfl⟩ := hn
  refine ⟨A, c, by rw [h]; rfl, ?_⟩
  rw [h]
  exact hS

set_option maxRecDepth 100000 in
set_option maxHeartbeats 4000000 in
theorem step_calls (w0 : World) (B gs gm N : Nat) (A : Option Addr) (c : Nat) (S : ShowP) (l : List Rsc) (at_ kd : Int) (key : ByteArray) (w : World) (hS : Sq w0 w (shL B gs gm N A c S l)) (hkd : kd = 1 ∨ kd = 2 ∨ kd = 3) (hN : N ≤ 1000) (hord : S.order.length ≤ 1000) (hkz : key.size ≤ 1000) (hBw : B ≤ w.heap.size) :
    Calls Tryz.prog 139 #[.pointer (some ⟨gs, 0, none⟩), .agg #[.int .i64 at_, .int .i64 kd, .string key]] w (StepS w0 B gs gm N S (at_, kd, key) l) := by
  obtain ⟨j0, hj, hy0, hy1, hy2⟩ := info_parts info_str
  have hml : key.size ≤ maxLen := by unfold maxLen; omega
  obtain ⟨sg, hsg⟩ : ∃ sg, S.st key = sg := ⟨_, rfl⟩
  obtain ⟨ob, oe, oo, oa, oz⟩ := sg
  obtain ⟨n, hn⟩ : ∃ n, S.order.length = n := ⟨_, rfl⟩
  obtain ⟨on, hon⟩ : ∃ on, S.on = on := ⟨_, rfl⟩
  have hst : stepP S (at_, kd, key) =
      if kd = 1 then (if (ob || oo || on) = true then none else some ⟨setSt S.st key ⟨true, oe, oo, at_, oz⟩, S.order ++ [key], true⟩)
      else if kd = 2 then (if (!ob || oe) = true then none else some ⟨setSt S.st key ⟨ob, true, oo, oa, at_⟩, S.order, false⟩)
      else (if (ob || oo) = true then none else some ⟨setSt S.st key ⟨ob, oe, true, oa, oz⟩, S.order, on⟩) := by
    unfold stepP
    simp only [hsg, hon]
  have HST := Lib.hid hst
  unfold shL at hS
  have hgsl : gs < w.heap.size := Blk.lt (show Blk w gs _ _ from hS.nth 0 rfl)
  have hne1 : ¬ gs = w.heap.size := by omega
  have hne2 : ¬ w.heap.size = gs := by omega
  have hSx := hS.add #[.int .i64 at_, .int .i64 kd, .string key] 84
  rw [hn, hon] at hSx
  rw [hn] at hord
  have hS0 : Sq w0 w (rStg gm N S.st :: rBlk gs 162 #[.map (some gm), .slice A n c, .bool on] :: rOwn B 9 1 (.slice A n c) n (strsV S.order) :: l) := by
    have := hS.front 1 rfl rfl
    rw [hn, hon] at this
    exact this
  have HN : Hid (S.order.length = n ∧ S.on = on) := ⟨hn, hon⟩
  have hS2 := hSx.add #[.bool ob, .bool oe, .bool oo, .int .i64 oa, .int .i64 oz] 159
  simp only [size1] at hS2
  have hS3 := hS2.drew
  obtain ⟨w1, hw1⟩ : ∃ W, w.alloc (.cells #[.int .i64 at_, .int .i64 kd, .string key] 84) = W := ⟨_, rfl⟩
  have hz1 : w1.heap.size = w.heap.size + 1 := by rw [← hw1]; simp
  rw [hw1] at hSx hS2 hS3
  have hbm : MapT w1 gm N S.st := hSx.nth 2 rfl
  have bs : Blk w1 gs 162 #[.map (some gm), .slice A n c, .bool on] := hSx.nth 1 rfl
  have bx : Blk w1 w.heap.size 84 #[.int .i64 at_, .int .i64 kd, .string key] := hSx.nth 0 rfl
  have HSP : Hid (∀ W, Below w1.heap.size w1 W → W.cell? ⟨gs, 0, none⟩ = some (.map (some gm)) ∧ W.cell? ⟨w.heap.size, 2, none⟩ = some (.string key) ∧ (Instr.lookup 160 (.map (some gm)) (.string key) false).run Tryz.prog W = .ok (.agg #[.bool ob, .bool oe, .bool oo, .int .i64 oa, .int .i64 oz]) W) := fun W hW => by
    have h := (hbm.below hW).look hml
    rw [hsg] at h
    exact ⟨(bs.below hW).cell 0, (bx.below hW).cell 2, h⟩
  have hdr : Below w1.heap.size w1 w1.drew := below_drewN (Below.refl _ _) 1
  clear hsg hn hon hst hS hSx hS2 hbm bs bx hS0
  go_enter Tryz.func139, Tryz.ntmps139
  go_wp2_with fail
  clear hw1
  go_region_held3 (fun W => W.cell? ⟨gs, 0, none⟩ = some (.map (some gm)) ∧ W.cell? ⟨w.heap.size, 2, none⟩ = some (.string key) ∧ (Instr.lookup 160 (.map (some gm)) (.string key) false).run Tryz.prog W = .ok (.agg #[.bool ob, .bool oe, .bool oo, .int .i64 oa, .int .i64 oz]) W)
    (first | exact HSP.out _ hdr | exact HSP.out _ (below_drewN ((Below.refl _ _).alloc (Nat.le_refl _) _) 1) | exact HSP.out _ (hdr.alloc (Nat.le_refl _) _)) (fail)
  all_goals
    obtain ⟨w2, hw2, hS2⟩ : ∃ W, W = _ ∧ Sq w0 W (rBlk (w.heap.size + 1) 159 #[.bool ob, .bool oe, .bool oo, .int .i64 oa, .int .i64 oz] :: rBlk w.heap.size 84 #[.int .i64 at_, .int .i64 kd, .string key] :: rBlk gs 162 #[.map (some gm), .slice A n c, .bool on] :: rStg gm N S.st :: rOwn B 9 1 (.slice A n c) n (strsV S.order) :: l) := ⟨_, rfl, hS3⟩
    rw [← hw2]
    clear hw2 hS3 HSP hdr
    have hbg : Blk w2 (w.heap.size + 1) 159 #[.bool ob, .bool oe, .bool oo, .int .i64 oa, .int .i64 oz] := hS2.nth 0 rfl
    have hbx : Blk w2 w.heap.size 84 #[.int .i64 at_, .int .i64 kd, .string key] := hS2.nth 1 rfl
    have hbs : Blk w2 gs 162 #[.map (some gm), .slice A n c, .bool on] := hS2.nth 2 rfl
    have x0 := hbx.cell 0
    have x1 := hbx.cell 1
    have x2 := hbx.cell 2
    have g0 := hbg.cell 0
    have g1 := hbg.cell 1
    have g2 := hbg.cell 2
    have g3 := hbg.cell 3
    have g4 := hbg.cell 4
    have s0 := hbs.cell 0
    have s1 := hbs.cell 1
    have s2 := hbs.cell 2
    have fg0 := hbg.frozen 0
    have fg1 := hbg.frozen 1
    have fg2 := hbg.frozen 2
    have fg3 := hbg.frozen 3
    have fg4 := hbg.frozen 4
    have fs2 := hbs.frozen 2
    clear hbg hbx hbs
    rcases hkd with rfl | rfl | rfl
    · cases ob
      · cases oo
        · cases on
          · go_wp2_with fail
            go_region_held3 (fun W => W.cell? ⟨w.heap.size, 0, none⟩ = some (.int .i64 at_)) (go_keep) (fail)
            have hSC := (((((hS2.set_ 0 (.bool true)).set_ 3 (.int .i64 at_)).front 2 rfl rfl).set_ 2 (.bool true)).front 2 rfl rfl).front 2 rfl rfl
            have hSC := hSC.drew
            obtain ⟨wB, hwB, hSB⟩ : ∃ W, W = _ ∧ Sq w0 W (rBlk (w.heap.size + 1) 159 #[.bool true, .bool oe, .bool false, .int .i64 at_, .int .i64 oz] :: rBlk w.heap.size 84 #[.int .i64 at_, .int .i64 1, .string key] :: rBlk gs 162 #[.map (some gm), .slice A n c, .bool true] :: rStg gm N S.st :: rOwn B 9 1 (.slice A n c) n (strsV S.order) :: l) := ⟨_, rfl, hSC⟩
            rw [← hwB]
            clear hwB
            clear x0 x1 x2 g0 g1 g2 g3 g4 s0 s1 s2 fg0 fg1 fg2 fg3 fg4 fs2
            clear hS2

            clear hSC
            have hbs : Blk wB gs 162 #[.map (some gm), .slice A n c, .bool true] := hSB.nth 2 rfl
            have hbx : Blk wB w.heap.size 84 #[.int .i64 at_, .int .i64 1, .string key] := hSB.nth 1 rfl
            have s1 := hbs.cell 1
            have x2 := hbx.cell 2
            have hsl := hbs.lt
            have hxl := hbx.lt
            have HOW := Lib.hid ((hSB.drew).front 4 rfl rfl)
            have h63 : n + 1 ≤ maxLen := by unfold maxLen; omega
            have hby : (n + 1) * 16 ≤ 140737488355328 := by omega
            have hBB : B ≤ wB.heap.size := by have := Blk.lt (show Blk wB (w.heap.size + 1) _ _ from hSB.nth 0 rfl); omega
            clear hbs hbx
            go_wp2_with fail
            go_region_law (first
              | (refine step_append_lies _ (by rfl) _ _ _ (by rfl) B 9 j0 (.string ⟨#[]⟩) 1 16 Tryz.underlying57 hj hy0 hy1 hy2 rfl (by omega) (.slice A n c) n (strsV S.order) (by rfl) ((HOW.out.alloc _).head) ⟨wB.heap.size, 0, none⟩ 1 1 [.string key] (by rfl) (by rfl) (news_new _ _ _ _ rfl) (one1 rfl) (by omega) h63 hby (base1 hBB _) _ rfl ?_; intro g2 cap2 w4 hown' hgrow hblk hlt4; have hSA := (HOW.out.alloc _).append hown' hgrow (own_lies hblk); clear hown' hgrow hblk; have e1 := Blk.cell (show Blk w4 gs 162 #[.map (some gm), .slice A n c, .bool true] from hSA.nth 3 rfl) 1; have f1 := Blk.frozen (show Blk w4 gs 162 #[.map (some gm), .slice A n c, .bool true] from hSA.nth 3 rfl) 1))
            all_goals
              have hSC := ((((((hSA.front 3 rfl rfl).set_ 1 (.slice (some ⟨g2, 0, none⟩) (n + 1) cap2)).front 1 rfl rfl).front 4 rfl rfl).front 2 rfl rfl).front 4 rfl rfl).front 4 rfl rfl
              obtain ⟨wC, hwC, hSC⟩ : ∃ W, W = _ ∧ Sq w0 W (rBlk (w.heap.size + 1) 159 #[.bool true, .bool oe, .bool false, .int .i64 at_, .int .i64 oz] :: rBlk w.heap.size 84 #[.int .i64 at_, .int .i64 1, .string key] :: rBlk gs 162 #[.map (some gm), .slice (some ⟨g2, 0, none⟩) (n + 1) cap2, .bool true] :: rStg gm N S.st :: rOwn B 9 1 (.slice (some ⟨g2, 0, none⟩) (n + 1) cap2) (n + 1) (strsV S.order ++ [.string key]) :: l) := ⟨_, rfl, hSC⟩
              rw [← hwC]
              clear hwC
              clear hSA e1 f1 s1 x2

              have HKEEP : Hid (∀ W st m, Sq w0 W (rStg gm m st :: rBlk (w.heap.size + 1) 159 #[.bool true, .bool oe, .bool false, .int .i64 at_, .int .i64 oz] :: rBlk w.heap.size 84 #[.int .i64 at_, .int .i64 1, .string key] :: rBlk gs 162 #[.map (some gm), .slice (some ⟨g2, 0, none⟩) (n + 1) cap2, .bool true] :: rOwn B 9 1 (.slice (some ⟨g2, 0, none⟩) (n + 1) cap2) (n + 1) (strsV S.order ++ [.string key]) :: l) → W.cell? ⟨gs, 0, none⟩ = some (.map (some gm)) ∧ W.cell? ⟨w.heap.size, 2, none⟩ = some (.string key) ∧ W.cell? ⟨w.heap.size + 1, 0, none⟩ = some (.bool true) ∧ W.cell? ⟨w.heap.size + 1, 1, none⟩ = some (.bool oe) ∧ W.cell? ⟨w.heap.size + 1, 2, none⟩ = some (.bool false) ∧ W.cell? ⟨w.heap.size + 1, 3, none⟩ = some (.int .i64 at_) ∧ W.cell? ⟨w.heap.size + 1, 4, none⟩ = some (.int .i64 oz)) := by
                intro W st m h
                have hg : Blk W (w.heap.size + 1) 159 #[.bool true, .bool oe, .bool false, .int .i64 at_, .int .i64 oz] := h.nth 1 rfl
                have hx : Blk W w.heap.size 84 #[.int .i64 at_, .int .i64 1, .string key] := h.nth 2 rfl
                have hs : Blk W gs 162 #[.map (some gm), .slice (some ⟨g2, 0, none⟩) (n + 1) cap2, .bool true] := h.nth 3 rfl
                exact ⟨hs.cell 0, hx.cell 2, hg.cell 0, hg.cell 1, hg.cell 2, hg.cell 3, hg.cell 4⟩
              obtain ⟨m0, m2, h0, h1, h2, h3, h4⟩ := HKEEP.out _ _ _ (hSC.front 3 rfl rfl)
              obtain ⟨f, hf1, hf2⟩ : MapT wC gm N S.st := hSC.nth 3 rfl
              have HF2 := Lib.hid hf2
              have HF1 := Lib.hid hf1
              have hNm : N < maxLen := by unfold maxLen; omega
              clear hf2 hf1
              obtain ⟨w6, hrun6, hm6, hg6⟩ := MapS.update (w := wC.drew) (t := 160) (HF1.out.below (below_drewN (Below.refl _ _) 1)) Tryz.underlying9 Tryz.underlying160 hNm hml (.agg #[.bool true, .bool oe, .bool false, .int .i64 at_, .int .i64 oz])
              have hSD := ((hSC.drew).front 3 rfl rfl).stgSet (n' := N + 1) (st' := setSt S.st key ⟨true, oe, false, at_, oz⟩) ⟨_, hm6, stg_upd HF2.out key ⟨true, oe, false, at_, oz⟩⟩ hg6
              clear hm6 hg6
              go_wp2_with fail
              go_region_held3 (fun W => W.cell? ⟨gs, 0, none⟩ = some (.map (some gm)) ∧ W.cell? ⟨w.heap.size, 2, none⟩ = some (.string key) ∧ W.cell? ⟨w.heap.size + 1, 0, none⟩ = some (.bool true) ∧ W.cell? ⟨w.heap.size + 1, 1, none⟩ = some (.bool oe) ∧ W.cell? ⟨w.heap.size + 1, 2, none⟩ = some (.bool false) ∧ W.cell? ⟨w.heap.size + 1, 3, none⟩ = some (.int .i64 at_) ∧ W.cell? ⟨w.heap.size + 1, 4, none⟩ = some (.int .i64 oz))
                (first | go_keep | exact HKEEP.out _ _ _ hSD) (fail)
              go_wp2_with fail
              go_ret
              exact step_yes (n := n + 1) (S' := ⟨setSt S.st key ⟨true, oe, false, at_, oz⟩, S.order ++ [key], true⟩) (HST.out.trans (by simp)) ⟨by simp [HN.out.1], rfl⟩ (by rw [strsV_snoc]; exact ((hSD.drop 1 rfl rfl).drop 1 rfl rfl).front 1 rfl rfl)

          · go_wp2_with fail
            go_ret
            exact step_no (HST.out.trans (by simp)) HN.out (hS2.tail.tail)
        · go_wp2_with fail
          go_ret
          exact step_no (HST.out.trans (by simp)) HN.out (hS2.tail.tail)
      · go_wp2_with fail
        go_ret
        exact step_no (HST.out.trans (by simp)) HN.out (hS2.tail.tail)
    · cases ob
      · go_wp2_with fail
        go_ret
        exact step_no (HST.out.trans (by simp)) HN.out (hS2.tail.tail)
      · cases oe
        · go_wp2_with fail
          go_region_held3 (fun W => W.cell? ⟨w.heap.size, 0, none⟩ = some (.int .i64 at_)) (go_keep) (fail)
          have hSC := (((((hS2.set_ 1 (.bool true)).set_ 4 (.int .i64 at_)).front 2 rfl rfl).set_ 2 (.bool false)).front 2 rfl rfl).front 2 rfl rfl
          have hSC := hSC.drew
          obtain ⟨wC, hwC, hSC⟩ : ∃ W, W = _ ∧ Sq w0 W (rBlk (w.heap.size + 1) 159 #[.bool true, .bool true, .bool oo, .int .i64 oa, .int .i64 at_] :: rBlk w.heap.size 84 #[.int .i64 at_, .int .i64 2, .string key] :: rBlk gs 162 #[.map (some gm), .slice A n c, .bool false] :: rStg gm N S.st :: rOwn B 9 1 (.slice A n c) n (strsV S.order) :: l) := ⟨_, rfl, hSC⟩
          rw [← hwC]
          clear hwC
          clear x0 x1 x2 g0 g1 g2 g3 g4 s0 s1 s2 fg0 fg1 fg2 fg3 fg4 fs2
          clear hS2

          have HKEEP : Hid (∀ W st m, Sq w0 W (rStg gm m st :: rBlk (w.heap.size + 1) 159 #[.bool true, .bool true, .bool oo, .int .i64 oa, .int .i64 at_] :: rBlk w.heap.size 84 #[.int .i64 at_, .int .i64 2, .string key] :: rBlk gs 162 #[.map (some gm), .slice A n c, .bool false] :: rOwn B 9 1 (.slice A n c) n (strsV S.order) :: l) → W.cell? ⟨gs, 0, none⟩ = some (.map (some gm)) ∧ W.cell? ⟨w.heap.size, 2, none⟩ = some (.string key) ∧ W.cell? ⟨w.heap.size + 1, 0, none⟩ = some (.bool true) ∧ W.cell? ⟨w.heap.size + 1, 1, none⟩ = some (.bool true) ∧ W.cell? ⟨w.heap.size + 1, 2, none⟩ = some (.bool oo) ∧ W.cell? ⟨w.heap.size + 1, 3, none⟩ = some (.int .i64 oa) ∧ W.cell? ⟨w.heap.size + 1, 4, none⟩ = some (.int .i64 at_)) := by
            intro W st m h
            have hg : Blk W (w.heap.size + 1) 159 #[.bool true, .bool true, .bool oo, .int .i64 oa, .int .i64 at_] := h.nth 1 rfl
            have hx : Blk W w.heap.size 84 #[.int .i64 at_, .int .i64 2, .string key] := h.nth 2 rfl
            have hs : Blk W gs 162 #[.map (some gm), .slice A n c, .bool false] := h.nth 3 rfl
            exact ⟨hs.cell 0, hx.cell 2, hg.cell 0, hg.cell 1, hg.cell 2, hg.cell 3, hg.cell 4⟩
          obtain ⟨m0, m2, h0, h1, h2, h3, h4⟩ := HKEEP.out _ _ _ (hSC.front 3 rfl rfl)
          obtain ⟨f, hf1, hf2⟩ : MapT wC gm N S.st := hSC.nth 3 rfl
          have HF2 := Lib.hid hf2
          have HF1 := Lib.hid hf1
          have hNm : N < maxLen := by unfold maxLen; omega
          clear hf2 hf1
          obtain ⟨w6, hrun6, hm6, hg6⟩ := MapS.update (w := wC.drew) (t := 160) (HF1.out.below (below_drewN (Below.refl _ _) 1)) Tryz.underlying9 Tryz.underlying160 hNm hml (.agg #[.bool true, .bool true, .bool oo, .int .i64 oa, .int .i64 at_])
          have hSD := ((hSC.drew).front 3 rfl rfl).stgSet (n' := N + 1) (st' := setSt S.st key ⟨true, true, oo, oa, at_⟩) ⟨_, hm6, stg_upd HF2.out key ⟨true, true, oo, oa, at_⟩⟩ hg6
          clear hm6 hg6
          go_wp2_with fail
          go_region_held3 (fun W => W.cell? ⟨gs, 0, none⟩ = some (.map (some gm)) ∧ W.cell? ⟨w.heap.size, 2, none⟩ = some (.string key) ∧ W.cell? ⟨w.heap.size + 1, 0, none⟩ = some (.bool true) ∧ W.cell? ⟨w.heap.size + 1, 1, none⟩ = some (.bool true) ∧ W.cell? ⟨w.heap.size + 1, 2, none⟩ = some (.bool oo) ∧ W.cell? ⟨w.heap.size + 1, 3, none⟩ = some (.int .i64 oa) ∧ W.cell? ⟨w.heap.size + 1, 4, none⟩ = some (.int .i64 at_))
            (first | go_keep | exact HKEEP.out _ _ _ hSD) (fail)
          go_wp2_with fail
          go_ret
          exact step_yes (S' := ⟨setSt S.st key ⟨true, true, oo, oa, at_⟩, S.order, false⟩) (HST.out.trans (by simp)) ⟨HN.out.1, rfl⟩ (((hSD.drop 1 rfl rfl).drop 1 rfl rfl).front 1 rfl rfl)

        · go_wp2_with fail
          go_ret
          exact step_no (HST.out.trans (by simp)) HN.out (hS2.tail.tail)
    · cases ob
      · cases oo
        · go_wp2_with fail
          have hSC := hS2.set_ 2 (.bool true)

          obtain ⟨wC, hwC, hSC⟩ : ∃ W, W = _ ∧ Sq w0 W (rBlk (w.heap.size + 1) 159 #[.bool false, .bool oe, .bool true, .int .i64 oa, .int .i64 oz] :: rBlk w.heap.size 84 #[.int .i64 at_, .int .i64 3, .string key] :: rBlk gs 162 #[.map (some gm), .slice A n c, .bool on] :: rStg gm N S.st :: rOwn B 9 1 (.slice A n c) n (strsV S.order) :: l) := ⟨_, rfl, hSC⟩
          rw [← hwC]
          clear hwC
          clear x0 x1 x2 g0 g1 g2 g3 g4 s0 s1 s2 fg0 fg1 fg2 fg3 fg4 fs2
          clear hS2

          have HKEEP : Hid (∀ W st m, Sq w0 W (rStg gm m st :: rBlk (w.heap.size + 1) 159 #[.bool false, .bool oe, .bool true, .int .i64 oa, .int .i64 oz] :: rBlk w.heap.size 84 #[.int .i64 at_, .int .i64 3, .string key] :: rBlk gs 162 #[.map (some gm), .slice A n c, .bool on] :: rOwn B 9 1 (.slice A n c) n (strsV S.order) :: l) → W.cell? ⟨gs, 0, none⟩ = some (.map (some gm)) ∧ W.cell? ⟨w.heap.size, 2, none⟩ = some (.string key) ∧ W.cell? ⟨w.heap.size + 1, 0, none⟩ = some (.bool false) ∧ W.cell? ⟨w.heap.size + 1, 1, none⟩ = some (.bool oe) ∧ W.cell? ⟨w.heap.size + 1, 2, none⟩ = some (.bool true) ∧ W.cell? ⟨w.heap.size + 1, 3, none⟩ = some (.int .i64 oa) ∧ W.cell? ⟨w.heap.size + 1, 4, none⟩ = some (.int .i64 oz)) := by
            intro W st m h
            have hg : Blk W (w.heap.size + 1) 159 #[.bool false, .bool oe, .bool true, .int .i64 oa, .int .i64 oz] := h.nth 1 rfl
            have hx : Blk W w.heap.size 84 #[.int .i64 at_, .int .i64 3, .string key] := h.nth 2 rfl
            have hs : Blk W gs 162 #[.map (some gm), .slice A n c, .bool on] := h.nth 3 rfl
            exact ⟨hs.cell 0, hx.cell 2, hg.cell 0, hg.cell 1, hg.cell 2, hg.cell 3, hg.cell 4⟩
          obtain ⟨m0, m2, h0, h1, h2, h3, h4⟩ := HKEEP.out _ _ _ (hSC.front 3 rfl rfl)
          obtain ⟨f, hf1, hf2⟩ : MapT wC gm N S.st := hSC.nth 3 rfl
          have HF2 := Lib.hid hf2
          have HF1 := Lib.hid hf1
          have hNm : N < maxLen := by unfold maxLen; omega
          clear hf2 hf1
          obtain ⟨w6, hrun6, hm6, hg6⟩ := MapS.update (w := wC.drew) (t := 160) (HF1.out.below (below_drewN (Below.refl _ _) 1)) Tryz.underlying9 Tryz.underlying160 hNm hml (.agg #[.bool false, .bool oe, .bool true, .int .i64 oa, .int .i64 oz])
          have hSD := ((hSC.drew).front 3 rfl rfl).stgSet (n' := N + 1) (st' := setSt S.st key ⟨false, oe, true, oa, oz⟩) ⟨_, hm6, stg_upd HF2.out key ⟨false, oe, true, oa, oz⟩⟩ hg6
          clear hm6 hg6
          go_wp2_with fail
          go_region_held3 (fun W => W.cell? ⟨gs, 0, none⟩ = some (.map (some gm)) ∧ W.cell? ⟨w.heap.size, 2, none⟩ = some (.string key) ∧ W.cell? ⟨w.heap.size + 1, 0, none⟩ = some (.bool false) ∧ W.cell? ⟨w.heap.size + 1, 1, none⟩ = some (.bool oe) ∧ W.cell? ⟨w.heap.size + 1, 2, none⟩ = some (.bool true) ∧ W.cell? ⟨w.heap.size + 1, 3, none⟩ = some (.int .i64 oa) ∧ W.cell? ⟨w.heap.size + 1, 4, none⟩ = some (.int .i64 oz))
            (first | go_keep | exact HKEEP.out _ _ _ hSD) (fail)
          go_wp2_with fail
          go_ret
          exact step_yes (S' := ⟨setSt S.st key ⟨false, oe, true, oa, oz⟩, S.order, on⟩) (HST.out.trans (by simp)) ⟨HN.out.1, rfl⟩ (((hSD.drop 1 rfl rfl).drop 1 rfl rfl).front 1 rfl rfl)
        · go_wp2_with fail
          go_ret
          exact step_no (HST.out.trans (by simp)) HN.out (hS2.tail.tail)
      · go_wp2_with fail
        go_ret
        exact step_no (HST.out.trans (by simp)) HN.out (hS2.tail.tail)
end Go.Proofs.YthbcogekfdllmaaGreatDoor

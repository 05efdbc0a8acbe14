/-
  marathon.(*show).step by a contract: it answers as stepP. (Printed by gen_live1.py.)
-/
import Derived.Test.YtknojcomgccpeaaZLivePure
import Derived.Test.YtknojcomgccpeaaZMap
import Derived.Test.YtknojcomgccpeaaZSlot4
import Derived.Deep.RegionHeld3
import Derived.RegionTactic
import Derived.ChangeAlike
import Derived.Test.YtknojcomgccpeaaZSlot5
namespace Go.Proofs.Ytknojcomgccpeaa
open Go Go.RowKit
attribute [local go_sem ↓] Go.wp_at_zero Go.wp_at_succ

def stgV (s : Stg) : Value := .agg #[.bool s.began, .bool s.ended, .bool s.out, .int .i64 s.at_, .int .i64 s.end_]
/-- a map of stages -/
def MapT (w : World) (b n : Nat) (st : ByteArray → Stg) : Prop := ∃ f, MapS w 9 b n f ∧ ∀ s, (f s).getD (stgV stgD) = stgV (st s)
def rStg (g n : Nat) (st : ByteArray → Stg) : Rsc := ⟨fun W => MapT W g n st, fun k => k = g⟩
theorem rStg_ok (g n : Nat) (st : ByteArray → Stg) : (rStg g n st).Ok := by
  intro W W' h hp
  obtain ⟨f, h1, h2⟩ := hp
  exact ⟨f, h1.block (h g rfl), h2⟩
theorem zero_stg (w : World) : (zeroValue 115).run Try.prog w = .ok (stgV stgD) w := by kernel_rfl
theorem MapT.look {w : World} {b n : Nat} {st : ByteArray → Stg} (h : MapT w b n st) {s : ByteArray} (hs : s.size ≤ maxLen) :
    (Instr.lookup 116 (.map (some b)) (.string s) false).run Try.prog w = .ok (.agg #[.bool (st s).began, .bool (st s).ended, .bool (st s).out, .int .i64 (st s).at_, .int .i64 (st s).end_]) w := by
  obtain ⟨f, h1, h2⟩ := h
  have := h1.look Try.underlying9 Try.underlying116 (zero_stg w) hs
  rw [h2] at this
  exact this
theorem MapT.mono {w : World} {b n n' : Nat} {st : ByteArray → Stg} (h : MapT w b n st) (hn : n ≤ n') : MapT w b n' st := by
  obtain ⟨f, h1, h2⟩ := h
  exact ⟨f, h1.mono hn, h2⟩
theorem MapT.below {w w' : World} {b n : Nat} {st : ByteArray → Stg} (h : MapT w b n st) (hb : Below w.heap.size w w') : MapT w' b n st := by
  obtain ⟨f, h1, h2⟩ := h
  exact ⟨f, h1.below hb, h2⟩
theorem stg_upd {f : ByteArray → Option Value} {st : ByteArray → Stg} (h2 : ∀ s, (f s).getD (stgV stgD) = stgV (st s)) (k : ByteArray) (v : Stg) : ∀ s, (upd f k (stgV v) s).getD (stgV stgD) = stgV (setSt st k v s) := by
  intro s
  by_cases he : s = k
  · subst he; simp [upd, setSt]
  · simp [upd, setSt, he, h2]
theorem Sq.stgSet {w W W' : World} {l : List Rsc} {g n n' : Nat} {st st' : ByteArray → Stg} (h : Sq w W (rStg g n st :: l)) (hm : MapT W' g n' st') (hg : W.grownBy W' (some g)) : Sq w W' (rStg g n' st' :: l) :=
  h.turn hg (fun k hk => by injection hk with hk; exact hk.symm) hm (rStg_ok _ _ _) (fun k hk => by
    have hk : k = g := hk
    subst hk
    obtain ⟨f, h1, _⟩ := hm
    exact ⟨.inl rfl, h1.lt⟩)
theorem Sq.stgMore {w W : World} {l : List Rsc} {g n n' : Nat} {st : ByteArray → Stg} (h : Sq w W (rStg g n st :: l)) (hn : n ≤ n') : Sq w W (rStg g n' st :: l) :=
  ⟨h.below, h.hp.tail.cons (MapT.mono h.head hn) (rStg_ok _ _ _) (fun k hk => h.hp.new _ (List.mem_cons_self ..) k hk) (fun s hs k hk hk2 => (List.pairwise_cons.1 h.hp.apart).1 s hs k hk hk2)⟩
/-- what a show is in memory -/
abbrev shL (B gs gm N : Nat) (A : Option Addr) (c : Nat) (S : ShowP) (l : List Rsc) : List Rsc :=
  rBlk gs 118 #[.map (some gm), .slice A S.order.length c, .bool S.on] :: rStg gm N S.st :: rOwn B 9 1 (.slice A S.order.length c) S.order.length (strsV S.order) :: l
def StepS (w0 : World) (B gs gm N : Nat) (S : ShowP) (y : Lv) (l : List Rsc) (e : Ending) (w' : World) : Prop :=
  ∃ A' c', e = .returned (.bool (stepP S y).isSome) ∧ Sq w0 w' (shL B gs gm (N + 1) A' c' ((stepP S y).getD S) l)

theorem strsV_snoc (l : List ByteArray) (k : ByteArray) : strsV (l ++ [k]) = strsV l ++ [.string k] := by simp [strsV]
theorem step_no {w0 W : World} {B gs gm N n c : Nat} {A : Option Addr} {S : ShowP} {y : Lv} {l : List Rsc} {on : Bool} (h : stepP S y = none) (hn : S.order.length = n ∧ S.on = on)
    (hS : Sq w0 W (rBlk gs 118 #[.map (some gm), .slice A n c, .bool on] :: rStg gm N S.st :: rOwn B 9 1 (.slice A n c) n (strsV S.order) :: l)) : StepS w0 B gs gm N S y l (.returned (.bool false)) W := by
  obtain ⟨rfl, rfl⟩ := hn
  refine ⟨A, c, by rw [h]; rfl, ?_⟩
  rw [h]
  exact ((hS.front 1 rfl rfl).stgMore (n' := N + 1) (by omega)).front 1 rfl rfl
theorem step_yes {w0 W : World} {B gs gm N n c : Nat} {A : Option Addr} {S S' : ShowP} {y : Lv} {l : List Rsc} {on : Bool} (h : stepP S y = some S') (hn : S'.order.length = n ∧ S'.on = on)
    (hS : Sq w0 W (rBlk gs 118 #[.map (some gm), .slice A n c, .bool on] :: rStg gm (N + 1) S'.st :: rOwn B 9 1 (.slice A n c) n (strsV S'.order) :: l)) : StepS w0 B gs gm N S y l (.returned (.bool true)) W := by
  obtain ⟨rfl, rfl⟩ := hn
  refine ⟨A, c, by rw [h]; rfl, ?_⟩
  rw [h]
  exact hS

set_option maxRecDepth 100000 in
set_option maxHeartbeats 4000000 in
theorem step_calls (w0 : World) (B gs gm N : Nat) (A : Option Addr) (c : Nat) (S : ShowP) (l : List Rsc) (at_ kd : Int) (key : ByteArray) (w : World) (hS : Sq w0 w (shL B gs gm N A c S l)) (hkd : kd = 1 ∨ kd = 2 ∨ kd = 3) (hN : N ≤ 1000) (hord : S.order.length ≤ 1000) (hkz : key.size ≤ 1000) (hBw : B ≤ w.heap.size) :
    Calls Try.prog 109 #[.pointer (some ⟨gs, 0, none⟩), .agg #[.int .i64 at_, .int .i64 kd, .string key]] w (StepS w0 B gs gm N S (at_, kd, key) l) := by
  obtain ⟨j0, hj, hy0, hy1, hy2⟩ := info_parts info_str
  have hml : key.size ≤ maxLen := by unfold maxLen; omega
  obtain ⟨sg, hsg⟩ : ∃ sg, S.st key = sg := ⟨_, rfl⟩
  obtain ⟨ob, oe, oo, oa, oz⟩ := sg
  obtain ⟨n, hn⟩ : ∃ n, S.order.length = n := ⟨_, rfl⟩
  obtain ⟨on, hon⟩ : ∃ on, S.on = on := ⟨_, rfl⟩
  have hst : stepP S (at_, kd, key) =
      if kd = 1 then (if (ob || oo || on) = true then none else some ⟨setSt S.st key ⟨true, oe, oo, at_, oz⟩, S.order ++ [key], true⟩)
      else if kd = 2 then (if (!ob || oe) = true then none else some ⟨setSt S.st key ⟨ob, true, oo, oa, at_⟩, S.order, false⟩)
      else (if (ob || oo) = true then none else some ⟨setSt S.st key ⟨ob, oe, true, oa, oz⟩, S.order, on⟩) := by
    unfold stepP
    simp only [hsg, hon]
  have HST := Lib.hid hst
  unfold shL at hS
  have hgsl : gs < w.heap.size := Blk.lt (show Blk w gs _ _ from hS.nth 0 rfl)
  have hne1 : ¬ gs = w.heap.size := by omega
  have hne2 : ¬ w.heap.size = gs := by omega
  have hSx := hS.add #[.int .i64 at_, .int .i64 kd, .string key] 103
  rw [hn, hon] at hSx
  rw [hn] at hord
  have hS0 : Sq w0 w (rStg gm N S.st :: rBlk gs 118 #[.map (some gm), .slice A n c, .bool on] :: rOwn B 9 1 (.slice A n c) n (strsV S.order) :: l) := by
    have := hS.front 1 rfl rfl
    rw [hn, hon] at this
    exact this
  have HN : Hid (S.order.length = n ∧ S.on = on) := ⟨hn, hon⟩
  have hS2 := hSx.add #[.bool ob, .bool oe, .bool oo, .int .i64 oa, .int .i64 oz] 115
  simp only [size1] at hS2
  have hS3 := hS2.drew
  obtain ⟨w1, hw1⟩ : ∃ W, w.alloc (.cells #[.int .i64 at_, .int .i64 kd, .string key] 103) = W := ⟨_, rfl⟩
  have hz1 : w1.heap.size = w.heap.size + 1 := by rw [← hw1]; simp
  rw [hw1] at hSx hS2 hS3
  have hbm : MapT w1 gm N S.st := hSx.nth 2 rfl
  have bs : Blk w1 gs 118 #[.map (some gm), .slice A n c, .bool on] := hSx.nth 1 rfl
  have bx : Blk w1 w.heap.size 103 #[.int .i64 at_, .int .i64 kd, .string key] := hSx.nth 0 rfl
  have HSP : Hid (∀ W, Below w1.heap.size w1 W → W.cell? ⟨gs, 0, none⟩ = some (.map (some gm)) ∧ W.cell? ⟨w.heap.size, 2, none⟩ = some (.string key) ∧ (Instr.lookup 116 (.map (some gm)) (.string key) false).run Try.prog W = .ok (.agg #[.bool ob, .bool oe, .bool oo, .int .i64 oa, .int .i64 oz]) W) := fun W hW => by
    have h := (hbm.below hW).look hml
    rw [hsg] at h
    exact ⟨(bs.below hW).cell 0, (bx.below hW).cell 2, h⟩
  have hdr : Below w1.heap.size w1 w1.drew := below_drewN (Below.refl _ _) 1
  clear hsg hn hon hst hS hSx hS2 hbm bs bx hS0
  go_enter Try.func109, Try.ntmps109
  go_wp2_with fail
  clear hw1
  go_region_held3 (fun W => W.cell? ⟨gs, 0, none⟩ = some (.map (some gm)) ∧ W.cell? ⟨w.heap.size, 2, none⟩ = some (.string key) ∧ (Instr.lookup 116 (.map (some gm)) (.string key) false).run Try.prog W = .ok (.agg #[.bool ob, .bool oe, .bool oo, .int .i64 oa, .int .i64 oz]) W)
    (first | exact HSP.out _ hdr | exact HSP.out _ (below_drewN ((Below.refl _ _).alloc (Nat.le_refl _) _) 1) | exact HSP.out _ (hdr.alloc (Nat.le_refl _) _)) (fail)
  all_goals
    obtain ⟨w2, hw2, hS2⟩ : ∃ W, W = _ ∧ Sq w0 W (rBlk (w.heap.size + 1) 115 #[.bool ob, .bool oe, .bool oo, .int .i64 oa, .int .i64 oz] :: rBlk w.heap.size 103 #[.int .i64 at_, .int .i64 kd, .string key] :: rBlk gs 118 #[.map (some gm), .slice A n c, .bool on] :: rStg gm N S.st :: rOwn B 9 1 (.slice A n c) n (strsV S.order) :: l) := ⟨_, rfl, hS3⟩
    rw [← hw2]
    clear hw2 hS3 HSP hdr
    have hbg : Blk w2 (w.heap.size + 1) 115 #[.bool ob, .bool oe, .bool oo, .int .i64 oa, .int .i64 oz] := hS2.nth 0 rfl
    have hbx : Blk w2 w.heap.size 103 #[.int .i64 at_, .int .i64 kd, .string key] := hS2.nth 1 rfl
    have hbs : Blk w2 gs 118 #[.map (some gm), .slice A n c, .bool on] := hS2.nth 2 rfl
    have x0 := hbx.cell 0
    have x1 := hbx.cell 1
    have x2 := hbx.cell 2
    have g0 := hbg.cell 0
    have g1 := hbg.cell 1
    have g2 := hbg.cell 2
    have g3 := hbg.cell 3
    have g4 := hbg.cell 4
    have s0 := hbs.cell 0
    have s1 := hbs.cell 1
    have s2 := hbs.cell 2
    have fg0 := hbg.frozen 0
    have fg1 := hbg.frozen 1
    have fg2 := hbg.frozen 2
    have fg3 := hbg.frozen 3
    have fg4 := hbg.frozen 4
    have fs2 := hbs.frozen 2
    clear hbg hbx hbs
    rcases hkd with rfl | rfl | rfl
    · cases ob
      · cases oo
        · cases on
          · go_wp2_with fail
            go_region_held3 (fun W => W.cell? ⟨w.heap.size, 0, none⟩ = some (.int .i64 at_)) (go_keep) (fail)
            have hSC := (((((hS2.set_ 0 (.bool true)).set_ 3 (.int .i64 at_)).front 2 rfl rfl).set_ 2 (.bool true)).front 2 rfl rfl).front 2 rfl rfl
            have hSC := hSC.drew
            obtain ⟨wB, hwB, hSB⟩ : ∃ W, W = _ ∧ Sq w0 W (rBlk (w.heap.size + 1) 115 #[.bool true, .bool oe, .bool false, .int .i64 at_, .int .i64 oz] :: rBlk w.heap.size 103 #[.int .i64 at_, .int .i64 1, .string key] :: rBlk gs 118 #[.map (some gm), .slice A n c, .bool true] :: rStg gm N S.st :: rOwn B 9 1 (.slice A n c) n (strsV S.order) :: l) := ⟨_, rfl, hSC⟩
            rw [← hwB]
            clear hwB
            clear x0 x1 x2 g0 g1 g2 g3 g4 s0 s1 s2 fg0 fg1 fg2 fg3 fg4 fs2
            clear hS2

            clear hSC
            have hbs : Blk wB gs 118 #[.map (some gm), .slice A n c, .bool true] := hSB.nth 2 rfl
            have hbx : Blk wB w.heap.size 103 #[.int .i64 at_, .int .i64 1, .string key] := hSB.nth 1 rfl
            have s1 := hbs.cell 1
            have x2 := hbx.cell 2
            have hsl := hbs.lt
            have hxl := hbx.lt
            have HOW := Lib.hid ((hSB.drew).front 4 rfl rfl)
            have h63 : n + 1 ≤ maxLen := by unfold maxLen; omega
            have hby : (n + 1) * 16 ≤ 140737488355328 := by omega
            have hBB : B ≤ wB.heap.size := by have := Blk.lt (show Blk wB (w.heap.size + 1) _ _ from hSB.nth 0 rfl); omega
            clear hbs hbx
            go_wp2_with fail
            go_region_law (first
              | (refine step_append_lies _ (by rfl) _ _ _ (by rfl) B 9 j0 (.string ⟨#[]⟩) 1 16 Try.underlying26 hj hy0 hy1 hy2 rfl (by omega) (.slice A n c) n (strsV S.order) (by rfl) ((HOW.out.alloc _).head) ⟨wB.heap.size, 0, none⟩ 1 1 [.string key] (by rfl) (by rfl) (news_new _ _ _ _ rfl) (one1 rfl) (by omega) h63 hby (base1 hBB _) _ rfl ?_; intro g2 cap2 w4 hown' hgrow hblk hlt4; have hSA := (HOW.out.alloc _).append hown' hgrow (own_lies hblk); clear hown' hgrow hblk; have e1 := Blk.cell (show Blk w4 gs 118 #[.map (some gm), .slice A n c, .bool true] from hSA.nth 3 rfl) 1; have f1 := Blk.frozen (show Blk w4 gs 118 #[.map (some gm), .slice A n c, .bool true] from hSA.nth 3 rfl) 1))
            all_goals
              have hSC := ((((((hSA.front 3 rfl rfl).set_ 1 (.slice (some ⟨g2, 0, none⟩) (n + 1) cap2)).front 1 rfl rfl).front 4 rfl rfl).front 2 rfl rfl).front 4 rfl rfl).front 4 rfl rfl
              obtain ⟨wC, hwC, hSC⟩ : ∃ W, W = _ ∧ Sq w0 W (rBlk (w.heap.size + 1) 115 #[.bool true, .bool oe, .bool false, .int .i64 at_, .int .i64 oz] :: rBlk w.heap.size 103 #[.int .i64 at_, .int .i64 1, .string key] :: rBlk gs 118 #[.map (some gm), .slice (some ⟨g2, 0, none⟩) (n + 1) cap2, .bool true] :: rStg gm N S.st :: rOwn B 9 1 (.slice (some ⟨g2, 0, none⟩) (n + 1) cap2) (n + 1) (strsV S.order ++ [.string key]) :: l) := ⟨_, rfl, hSC⟩
              rw [← hwC]
              clear hwC
              clear hSA e1 f1 s1 x2

              have HKEEP : Hid (∀ W st m, Sq w0 W (rStg gm m st :: rBlk (w.heap.size + 1) 115 #[.bool true, .bool oe, .bool false, .int .i64 at_, .int .i64 oz] :: rBlk w.heap.size 103 #[.int .i64 at_, .int .i64 1, .string key] :: rBlk gs 118 #[.map (some gm), .slice (some ⟨g2, 0, none⟩) (n + 1) cap2, .bool true] :: rOwn B 9 1 (.slice (some ⟨g2, 0, none⟩) (n + 1) cap2) (n + 1) (strsV S.order ++ [.string key]) :: l) → W.cell? ⟨gs, 0, none⟩ = some (.map (some gm)) ∧ W.cell? ⟨w.heap.size, 2, none⟩ = some (.string key) ∧ W.cell? ⟨w.heap.size + 1, 0, none⟩ = some (.bool true) ∧ W.cell? ⟨w.heap.size + 1, 1, none⟩ = some (.bool oe) ∧ W.cell? ⟨w.heap.size + 1, 2, none⟩ = some (.bool false) ∧ W.cell? ⟨w.heap.size + 1, 3, none⟩ = some (.int .i64 at_) ∧ W.cell? ⟨w.heap.size + 1, 4, none⟩ = some (.int .i64 oz)) := by
                intro W st m h
                have hg : Blk W (w.heap.size + 1) 115 #[.bool true, .bool oe, .bool false, .int .i64 at_, .int .i64 oz] := h.nth 1 rfl
                have hx : Blk W w.heap.size 103 #[.int .i64 at_, .int .i64 1, .string key] := h.nth 2 rfl
                have hs : Blk W gs 118 #[.map (some gm), .slice (some ⟨g2, 0, none⟩) (n + 1) cap2, .bool true] := h.nth 3 rfl
                exact ⟨hs.cell 0, hx.cell 2, hg.cell 0, hg.cell 1, hg.cell 2, hg.cell 3, hg.cell 4⟩
              obtain ⟨m0, m2, h0, h1, h2, h3, h4⟩ := HKEEP.out _ _ _ (hSC.front 3 rfl rfl)
              obtain ⟨f, hf1, hf2⟩ : MapT wC gm N S.st := hSC.nth 3 rfl
              have HF2 := Lib.hid hf2
              have HF1 := Lib.hid hf1
              have hNm : N < maxLen := by unfold maxLen; omega
              clear hf2 hf1
              obtain ⟨w6, hrun6, hm6, hg6⟩ := MapS.update (w := wC.drew) (t := 116) (HF1.out.below (below_drewN (Below.refl _ _) 1)) Try.underlying9 Try.underlying116 hNm hml (.agg #[.bool true, .bool oe, .bool false, .int .i64 at_, .int .i64 oz])
              have hSD := ((hSC.drew).front 3 rfl rfl).stgSet (n' := N + 1) (st' := setSt S.st key ⟨true, oe, false, at_, oz⟩) ⟨_, hm6, stg_upd HF2.out key ⟨true, oe, false, at_, oz⟩⟩ hg6
              clear hm6 hg6
              go_wp2_with fail
              go_region_held3 (fun W => W.cell? ⟨gs, 0, none⟩ = some (.map (some gm)) ∧ W.cell? ⟨w.heap.size, 2, none⟩ = some (.string key) ∧ W.cell? ⟨w.heap.size + 1, 0, none⟩ = some (.bool true) ∧ W.cell? ⟨w.heap.size + 1, 1, none⟩ = some (.bool oe) ∧ W.cell? ⟨w.heap.size + 1, 2, none⟩ = some (.bool false) ∧ W.cell? ⟨w.heap.size + 1, 3, none⟩ = some (.int .i64 at_) ∧ W.cell? ⟨w.heap.size + 1, 4, none⟩ = some (.int .i64 oz))
                (first | go_keep | exact HKEEP.out _ _ _ hSD) (fail)
              go_wp2_with fail
              go_ret
              exact step_yes (n := n + 1) (S' := ⟨setSt S.st key ⟨true, oe, false, at_, oz⟩, S.order ++ [key], true⟩) (HST.out.trans (by simp)) ⟨by simp [HN.out.1], rfl⟩ (by rw [strsV_snoc]; exact ((hSD.drop 1 rfl rfl).drop 1 rfl rfl).front 1 rfl rfl)

          · go_wp2_with fail
            go_ret
            exact step_no (HST.out.trans (by simp)) HN.out (hS2.tail.tail)
        · go_wp2_with fail
          go_ret
          exact step_no (HST.out.trans (by simp)) HN.out (hS2.tail.tail)
      · go_wp2_with fail
        go_ret
        exact step_no (HST.out.trans (by simp)) HN.out (hS2.tail.tail)
    · cases ob
      · go_wp2_with fail
        go_ret
        exact step_no (HST.out.trans (by simp)) HN.out (hS2.tail.tail)
      · cases oe
        · go_wp2_with fail
          go_region_held3 (fun W => W.cell? ⟨w.heap.size, 0, none⟩ = some (.int .i64 at_)) (go_keep) (fail)
          have hSC := (((((hS2.set_ 1 (.bool true)).set_ 4 (.int .i64 at_)).front 2 rfl rfl).set_ 2 (.bool false)).front 2 rfl rfl).front 2 rfl rfl
          have hSC := hSC.drew
          obtain ⟨wC, hwC, hSC⟩ : ∃ W, W = _ ∧ Sq w0 W (rBlk (w.heap.size + 1) 115 #[.bool true, .bool true, .bool oo, .int .i64 oa, .int .i64 at_] :: rBlk w.heap.size 103 #[.int .i64 at_, .int .i64 2, .string key] :: rBlk gs 118 #[.map (some gm), .slice A n c, .bool false] :: rStg gm N S.st :: rOwn B 9 1 (.slice A n c) n (strsV S.order) :: l) := ⟨_, rfl, hSC⟩
          rw [← hwC]
          clear hwC
          clear x0 x1 x2 g0 g1 g2 g3 g4 s0 s1 s2 fg0 fg1 fg2 fg3 fg4 fs2
          clear hS2

          have HKEEP : Hid (∀ W st m, Sq w0 W (rStg gm m st :: rBlk (w.heap.size + 1) 115 #[.bool true, .bool true, .bool oo, .int .i64 oa, .int .i64 at_] :: rBlk w.heap.size 103 #[.int .i64 at_, .int .i64 2, .string key] :: rBlk gs 118 #[.map (some gm), .slice A n c, .bool false] :: rOwn B 9 1 (.slice A n c) n (strsV S.order) :: l) → W.cell? ⟨gs, 0, none⟩ = some (.map (some gm)) ∧ W.cell? ⟨w.heap.size, 2, none⟩ = some (.string key) ∧ W.cell? ⟨w.heap.size + 1, 0, none⟩ = some (.bool true) ∧ W.cell? ⟨w.heap.size + 1, 1, none⟩ = some (.bool true) ∧ W.cell? ⟨w.heap.size + 1, 2, none⟩ = some (.bool oo) ∧ W.cell? ⟨w.heap.size + 1, 3, none⟩ = some (.int .i64 oa) ∧ W.cell? ⟨w.heap.size + 1, 4, none⟩ = some (.int .i64 at_)) := by
            intro W st m h
            have hg : Blk W (w.heap.size + 1) 115 #[.bool true, .bool true, .bool oo, .int .i64 oa, .int .i64 at_] := h.nth 1 rfl
            have hx : Blk W w.heap.size 103 #[.int .i64 at_, .int .i64 2, .string key] := h.nth 2 rfl
            have hs : Blk W gs 118 #[.map (some gm), .slice A n c, .bool false] := h.nth 3 rfl
            exact ⟨hs.cell 0, hx.cell 2, hg.cell 0, hg.cell 1, hg.cell 2, hg.cell 3, hg.cell 4⟩
          obtain ⟨m0, m2, h0, h1, h2, h3, h4⟩ := HKEEP.out _ _ _ (hSC.front 3 rfl rfl)
          obtain ⟨f, hf1, hf2⟩ : MapT wC gm N S.st := hSC.nth 3 rfl
          have HF2 := Lib.hid hf2
          have HF1 := Lib.hid hf1
          have hNm : N < maxLen := by unfold maxLen; omega
          clear hf2 hf1
          obtain ⟨w6, hrun6, hm6, hg6⟩ := MapS.update (w := wC.drew) (t := 116) (HF1.out.below (below_drewN (Below.refl _ _) 1)) Try.underlying9 Try.underlying116 hNm hml (.agg #[.bool true, .bool true, .bool oo, .int .i64 oa, .int .i64 at_])
          have hSD := ((hSC.drew).front 3 rfl rfl).stgSet (n' := N + 1) (st' := setSt S.st key ⟨true, true, oo, oa, at_⟩) ⟨_, hm6, stg_upd HF2.out key ⟨true, true, oo, oa, at_⟩⟩ hg6
          clear hm6 hg6
          go_wp2_with fail
          go_region_held3 (fun W => W.cell? ⟨gs, 0, none⟩ = some (.map (some gm)) ∧ W.cell? ⟨w.heap.size, 2, none⟩ = some (.string key) ∧ W.cell? ⟨w.heap.size + 1, 0, none⟩ = some (.bool true) ∧ W.cell? ⟨w.heap.size + 1, 1, none⟩ = some (.bool true) ∧ W.cell? ⟨w.heap.size + 1, 2, none⟩ = some (.bool oo) ∧ W.cell? ⟨w.heap.size + 1, 3, none⟩ = some (.int .i64 oa) ∧ W.cell? ⟨w.heap.size + 1, 4, none⟩ = some (.int .i64 at_))
            (first | go_keep | exact HKEEP.out _ _ _ hSD) (fail)
          go_wp2_with fail
          go_ret
          exact step_yes (S' := ⟨setSt S.st key ⟨true, true, oo, oa, at_⟩, S.order, false⟩) (HST.out.trans (by simp)) ⟨HN.out.1, rfl⟩ (((hSD.drop 1 rfl rfl).drop 1 rfl rfl).front 1 rfl rfl)

        · go_wp2_with fail
          go_ret
          exact step_no (HST.out.trans (by simp)) HN.out (hS2.tail.tail)
    · cases ob
      · cases oo
        · go_wp2_with fail
          have hSC := hS2.set_ 2 (.bool true)

          obtain ⟨wC, hwC, hSC⟩ : ∃ W, W = _ ∧ Sq w0 W (rBlk (w.heap.size + 1) 115 #[.bool false, .bool oe, .bool true, .int .i64 oa, .int .i64 oz] :: rBlk w.heap.size 103 #[.int .i64 at_, .int .i64 3, .string key] :: rBlk gs 118 #[.map (some gm), .slice A n c, .bool on] :: rStg gm N S.st :: rOwn B 9 1 (.slice A n c) n (strsV S.order) :: l) := ⟨_, rfl, hSC⟩
          rw [← hwC]
          clear hwC
          clear x0 x1 x2 g0 g1 g2 g3 g4 s0 s1 s2 fg0 fg1 fg2 fg3 fg4 fs2
          clear hS2

          have HKEEP : Hid (∀ W st m, Sq w0 W (rStg gm m st :: rBlk (w.heap.size + 1) 115 #[.bool false, .bool oe, .bool true, .int .i64 oa, .int .i64 oz] :: rBlk w.heap.size 103 #[.int .i64 at_, .int .i64 3, .string key] :: rBlk gs 118 #[.map (some gm), .slice A n c, .bool on] :: rOwn B 9 1 (.slice A n c) n (strsV S.order) :: l) → W.cell? ⟨gs, 0, none⟩ = some (.map (some gm)) ∧ W.cell? ⟨w.heap.size, 2, none⟩ = some (.string key) ∧ W.cell? ⟨w.heap.size + 1, 0, none⟩ = some (.bool false) ∧ W.cell? ⟨w.heap.size + 1, 1, none⟩ = some (.bool oe) ∧ W.cell? ⟨w.heap.size + 1, 2, none⟩ = some (.bool true) ∧ W.cell? ⟨w.heap.size + 1, 3, none⟩ = some (.int .i64 oa) ∧ W.cell? ⟨w.heap.size + 1, 4, none⟩ = some (.int .i64 oz)) := by
            intro W st m h
            have hg : Blk W (w.heap.size + 1) 115 #[.bool false, .bool oe, .bool true, .int .i64 oa, .int .i64 oz] := h.nth 1 rfl
            have hx : Blk W w.heap.size 103 #[.int .i64 at_, .int .i64 3, .string key] := h.nth 2 rfl
            have hs : Blk W gs 118 #[.map (some gm), .slice A n c, .bool on] := h.nth 3 rfl
            exact ⟨hs.cell 0, hx.cell 2, hg.cell 0, hg.cell 1, hg.cell 2, hg.cell 3, hg.cell 4⟩
          obtain ⟨m0, m2, h0, h1, h2, h3, h4⟩ := HKEEP.out _ _ _ (hSC.front 3 rfl rfl)
          obtain ⟨f, hf1, hf2⟩ : MapT wC gm N S.st := hSC.nth 3 rfl
          have HF2 := Lib.hid hf2
          have HF1 := Lib.hid hf1
          have hNm : N < maxLen := by unfold maxLen; omega
          clear hf2 hf1
          obtain ⟨w6, hrun6, hm6, hg6⟩ := MapS.update (w := wC.drew) (t := 116) (HF1.out.below (below_drewN (Below.refl _ _) 1)) Try.underlying9 Try.underlying116 hNm hml (.agg #[.bool false, .bool oe, .bool true, .int .i64 oa, .int .i64 oz])
          have hSD := ((hSC.drew).front 3 rfl rfl).stgSet (n' := N + 1) (st' := setSt S.st key ⟨false, oe, true, oa, oz⟩) ⟨_, hm6, stg_upd HF2.out key ⟨false, oe, true, oa, oz⟩⟩ hg6
          clear hm6 hg6
          go_wp2_with fail
          go_region_held3 (fun W => W.cell? ⟨gs, 0, none⟩ = some (.map (some gm)) ∧ W.cell? ⟨w.heap.size, 2, none⟩ = some (.string key) ∧ W.cell? ⟨w.heap.size + 1, 0, none⟩ = some (.bool false) ∧ W.cell? ⟨w.heap.size + 1, 1, none⟩ = some (.bool oe) ∧ W.cell? ⟨w.heap.size + 1, 2, none⟩ = some (.bool true) ∧ W.cell? ⟨w.heap.size + 1, 3, none⟩ = some (.int .i64 oa) ∧ W.cell? ⟨w.heap.size + 1, 4, none⟩ = some (.int .i64 oz))
            (first | go_keep | exact HKEEP.out _ _ _ hSD) (fail)
          go_wp2_with fail
          go_ret
          exact step_yes (S' := ⟨setSt S.st key ⟨false, oe, true, oa, oz⟩, S.order, on⟩) (HST.out.trans (by simp)) ⟨HN.out.1, rfl⟩ (((hSD.drop 1 rfl rfl).drop 1 rfl rfl).front 1 rfl rfl)
        · go_wp2_with fail
          go_ret
          exact step_no (HST.out.trans (by simp)) HN.out (hS2.tail.tail)
      · go_wp2_with fail
        go_ret
        exact step_no (HST.out.trans (by simp)) HN.out (hS2.tail.tail)
end Go.Proofs.Ytknojcomgccpeaa
/-
  marathon.follow and CheckLive by contracts. (Printed by gen_live2.py.)
-/
namespace Go.Proofs.Ytknojcomgccpeaa
open Go Go.RowKit
attribute [local go_sem ↓] Go.wp_at_zero Go.wp_at_succ

/-- something live within its bounds -/
def LvOk (y : Lv) : Prop := (-2199023255552 ≤ y.1 ∧ y.1 ≤ 2199023255552) ∧ (-2199023255552 ≤ y.2.1 ∧ y.2.1 ≤ 2199023255552) ∧ y.2.2.size ≤ 1000
theorem step_len (S : ShowP) (y : Lv) : ((stepP S y).getD S).order.length ≤ S.order.length + 1 := by
  unfold stepP
  split
  · split <;> simp
  · split
    · split <;> simp
    · split <;> simp
theorem state_len : ∀ p : List Lv, ∀ S : ShowP, (p.foldl (fun S y => (stepP S y).getD S) S).order.length ≤ S.order.length + p.length
  | [], S => by simp
  | y :: p, S => by
    have := state_len p ((stepP S y).getD S)
    have := step_len S y
    simp only [List.foldl_cons, List.length_cons]
    omega
theorem stateP_len (p : List Lv) : (stateP p).order.length ≤ p.length := by
  have := state_len p show0
  simpa [show0, stateP] using this
theorem upTo_step (ys : List Lv) (u : Int) (k : Nat) (hk : k < ys.length) : upTo (ys.take (k + 1)) u = if ys[k].1 ≤ u then upTo (ys.take k) u ++ [ys[k]] else upTo (ys.take k) u := by
  unfold upTo
  rw [List.take_succ_eq_append_getElem hk, List.filter_append]
  by_cases h : ys[k].1 ≤ u
  · simp [h]
  · simp [h]
theorem upTo_le (ys : List Lv) (u : Int) (k : Nat) : (upTo (ys.take k) u).length ≤ k := by
  unfold upTo
  have := List.length_filter_le (fun y : Lv => decide (y.1 ≤ u)) (ys.take k)
  simp at this ⊢
  omega
/-- a show in new memory -/
def ShowS (S : ShowP) (w : World) (e : Ending) (w' : World) : Prop :=
  ∃ gs gm N A c, e = .returned (.pointer (some ⟨gs, 0, none⟩)) ∧ N ≤ 1000 ∧ Sq w w' (shL w.heap.size gs gm N A c S [])

set_option maxRecDepth 100000 in
set_option maxHeartbeats 2000000 in
theorem follow_calls (b : Nat) (A : Option Addr) (n c : Nat) (ys : List Lv) (u : Int) (w : World) (hr : Rd w b 3 (.slice A n c) n (ys.flatMap lvC)) (hys : ∀ y ∈ ys, LvOk y) (hkd : ∀ y ∈ ys, y.2.1 = 1 ∨ y.2.1 = 2 ∨ y.2.1 = 3) (hn : n ≤ 900) :
    Calls Try.prog 66 #[.slice A n c, .int .i64 u] w (ShowS (stateP (upTo ys u)) w) := by
  obtain ⟨hl, hnc, hcm, hcells⟩ := hr.cells lvC_len (by omega)
  unfold maxLen at hcm
  have HL := Lib.hid hl
  have HC := Lib.hid hcells
  have HY := Lib.hid hys
  have HK := Lib.hid hkd
  have hmm := @run_makeMap Try.prog
  have hS0 : Sq w ((w.alloc (.map #[] 0)).alloc (.cells #[.map (some w.heap.size), .slice none 0 0, .bool false] 118)) (shL w.heap.size (w.heap.size + 1) w.heap.size 0 none 0 show0 []) := by
    have h := (((((Sq.start w).addMap 9)).add #[.map (some w.heap.size), .slice none 0 0, .bool false] 118).nil w.heap.size 9 1)
    simp only [size1] at h
    refine ((h.front 2 rfl rfl).front 2 rfl rfl |> fun h2 => ?_)
    have h3 := (h2.front 1 rfl rfl)
    refine Sq.front (i := 1) (l := rStg w.heap.size 0 show0.st :: rBlk (w.heap.size + 1) 118 #[.map (some w.heap.size), .slice none 0 0, .bool false] :: rOwn w.heap.size 9 1 (.slice none 0 0) 0 [] :: []) ?_ rfl rfl
    exact ⟨h3.below, h3.hp.tail.cons ⟨_, h3.head, fun _ => rfl⟩ (rStg_ok _ _ _) (fun k hk => h3.hp.new _ (List.mem_cons_self ..) k hk) (fun s hs k hk hk2 => (List.pairwise_cons.1 h3.hp.apart).1 s hs k hk hk2)⟩
  clear hcells hl hr hys hkd
  go_enter Try.func66, Try.ntmps66
  go_wp2_with fail
  clear hmm
  go_loopw [13] (fun i wr => ∃ (k : Nat) (A' : Option Addr) (c' : Nat), k ≤ n ∧ i = .int .i64 k ∧ Sq w wr (shL w.heap.size (w.heap.size + 1) w.heap.size k A' c' (stateP (upTo (ys.take k) u)) [])) (fun i _ => n - (intOf i).toNat)
  case atStart => exact ⟨0, none, 0, Nat.zero_le _, rfl, hS0⟩
  case round =>
    clear hS0
    obtain ⟨k, A', c', hk, rfl, hS⟩ := hrel
    by_cases hlt : k < n
    · have hkr : k < ys.length := by rw [HL.out]; exact hlt
      obtain ⟨g, o, hA, _, hcs⟩ := HC.out (by omega)
      subst hA
      obtain ⟨y, hy⟩ : ∃ y, ys[k] = y := ⟨_, rfl⟩
      have c0 := below_cell hS.below (hcs k hkr 0 (by omega))
      have c1 := below_cell hS.below (hcs k hkr 1 (by omega))
      have c2 := below_cell hS.below (hcs k hkr 2 (by omega))
      have hok := HY.out _ (List.getElem_mem hkr)
      have hkd := HK.out _ (List.getElem_mem hkr)
      have hst := upTo_step ys u k hkr
      rw [hy] at c0 c1 c2 hok hkd hst
      obtain ⟨at_, kd, key⟩ := y
      replace c0 : wr.cell? ⟨g, o + k * 3, none⟩ = some (.int .i64 at_) := c0
      replace c1 : wr.cell? ⟨g, o + k * 3 + 1, none⟩ = some (.int .i64 kd) := c1
      replace c2 : wr.cell? ⟨g, o + k * 3 + 2, none⟩ = some (.string key) := c2
      have hln : (stateP (upTo (ys.take k) u)).order.length ≤ k := Nat.le_trans (stateP_len _) (upTo_le ys u k)
      have HB := Lib.hid (hS.size)
      have hSa := hS.alloc (.cells #[.int .i64 at_, .int .i64 kd, .string key] 103)
      by_cases hle : at_ ≤ u
      · have HST : Hid (stateP (upTo (ys.take (k + 1)) u) = (stepP (stateP (upTo (ys.take k) u)) (at_, kd, key)).getD (stateP (upTo (ys.take k) u))) := by
          rw [hst, if_pos hle, stateP_snoc]; exact Lib.hid rfl
        have HCALL := Lib.hid (step_calls w w.heap.size (w.heap.size + 1) w.heap.size k A' c' (stateP (upTo (ys.take k) u)) [] at_ kd key _ hSa hkd (by omega) (by omega) hok.2.2 (by have := HB.out; simp; omega))
        clear hcs hy hok hkd hst hS hSa
        go_wp2_with fail
        refine HCALL.out.mono ?_
        rintro e w2 ⟨A2, c2', rfl, hS2⟩
        rw [← HST.out] at hS2
        clear HCALL
        go_wp2_with fail
        go_roundw
        case rel => exact ⟨k + 1, A2, c2', by omega, by go_num, hS2⟩
        case measure => simp [intOf]; omega
      · have HST : Hid (upTo (ys.take (k + 1)) u = upTo (ys.take k) u) := hst.trans (if_neg hle)
        clear hcs hy hok hkd hst hS
        go_wp2_with fail
        go_roundw
        case rel => exact ⟨k + 1, A', c', by omega, by go_num, by rw [HST.out]; exact (hSa.front 1 rfl rfl |>.stgMore (Nat.le_succ _)).front 1 rfl rfl⟩
        case measure => simp [intOf]; omega
    · obtain rfl : k = n := by omega
      have HS : Hid (ys.take k = ys) := List.take_of_length_le (by rw [HL.out]; exact Nat.le_refl _)
      rw [HS.out] at hS
      go_wp2_with fail
      go_ret
      exact ⟨_, _, _, _, _, rfl, by omega, hS⟩
end Go.Proofs.Ytknojcomgccpeaa
/-
  marathon.CheckLive by a contract. (Printed by gen_live3.py.)
-/
namespace Go.Proofs.Ytknojcomgccpeaa
open Go Go.RowKit
attribute [local go_sem ↓] Go.wp_at_zero Go.wp_at_succ

theorem lvE_1 {xs : List Slt} {p : List Lv} {y : Lv} (h : momB y.1 = false) : lvE xs p y = 1 := by unfold lvE; rw [h]; rfl
theorem lvE_4 {xs : List Slt} {p : List Lv} {y : Lv} (h : momB y.1 = true) (h2 : outB y.2.1 1 3 = true) : lvE xs p y = 4 := by unfold lvE; rw [h, h2]; rfl
theorem lvE_8 {xs : List Slt} {p : List Lv} {y : Lv} (h : momB y.1 = true) (h2 : outB y.2.1 1 3 = false) (h3 : findL xs y.2.2 < 0) : lvE xs p y = 8 := by unfold lvE; rw [h, h2, if_pos h3]; rfl
theorem lvE_7 {xs : List Slt} {p : List Lv} {y : Lv} (h : momB y.1 = true) (h2 : outB y.2.1 1 3 = false) (h3 : ¬ findL xs y.2.2 < 0) (h4 : lateB p y = true) : lvE xs p y = 7 := by unfold lvE; rw [h, h2, if_neg h3, h4]; rfl
theorem lvE_0 {xs : List Slt} {p : List Lv} {y : Lv} (h : momB y.1 = true) (h2 : outB y.2.1 1 3 = false) (h3 : ¬ findL xs y.2.2 < 0) (h4 : lateB p y = false) : lvE xs p y = 0 := by unfold lvE; rw [h, h2, if_neg h3, h4]; rfl
theorem live_bad {xs : List Slt} {wr : List Lv → Lv → Bool} {ys : List Lv} {k : Nat} {hk : k < ys.length} {E : Int} (h : lvE xs (ys.take k) ys[k] = E) (hE : E ≠ 0) : liveG wr xs (ys.take k) (ys.drop k) = E := by
  rw [liveG_step wr xs ys k hk, if_neg (by rw [h]; exact hE), h]
theorem live_wrong {xs : List Slt} {wr : List Lv → Lv → Bool} {ys : List Lv} {k : Nat} {hk : k < ys.length} (h : lvE xs (ys.take k) ys[k] = 0) (hw : wr (ys.take k) ys[k] = true) : liveG wr xs (ys.take k) (ys.drop k) = 11 := by
  rw [liveG_step wr xs ys k hk, if_pos h, if_pos hw]
theorem live_next {xs : List Slt} {wr : List Lv → Lv → Bool} {ys : List Lv} {k : Nat} {hk : k < ys.length} (h : lvE xs (ys.take k) ys[k] = 0) (hw : wr (ys.take k) ys[k] = false) : liveG wr xs (ys.take k) (ys.drop k) = liveG wr xs (ys.take (k + 1)) (ys.drop (k + 1)) := by
  rw [liveG_step wr xs ys k hk, if_pos h, if_neg (by rw [hw]; simp)]
theorem kd_of {kd : Int} (h : outB kd 1 3 = false) : kd = 1 ∨ kd = 2 ∨ kd = 3 := by
  unfold outB at h
  simp at h
  omega

set_option maxRecDepth 100000 in
set_option maxHeartbeats 4000000 in
theorem checkLive_calls (b : Nat) (A A2 : Option Addr) (n c m c2 : Nat) (xs : List Slt) (ys : List Lv) (w : World) (hr : Slts w b A n c xs) (hr2 : Rd w b 3 (.slice A2 m c2) m (ys.flatMap lvC)) (hys : ∀ y ∈ ys, LvOk y) (hb : b < w.heap.size) :
    Calls Try.prog 62 #[.slice A n c, .slice A2 m c2] w (BRet (.int .i64 (liveF wrongP xs ys)) w) := by
  obtain ⟨hl2, hnc2, hcm2, hcells2⟩ := hr2.cells lvC_len (by omega)
  unfold maxLen at hcm2
  obtain ⟨E, hE⟩ : ∃ E, slotsF xs = E := ⟨_, rfl⟩
  have hF : liveF wrongP xs ys = if E = 0 then if 400 < m then 2 else liveG wrongP xs [] ys else E := by unfold liveF; rw [hE, hl2]
  have HCS := Lib.hid (checkSlots_calls b A n c xs w hr hb)
  rw [hE] at HCS
  have HL2 := Lib.hid hl2
  have HC2 := Lib.hid hcells2
  have HR := Lib.hid hr
  have HY := Lib.hid hys
  have hmm := @run_makeMap Try.prog
  clear hr hcells2 hl2 hr2 hE hys
  by_cases hz : E = 0
  · rw [if_pos hz] at hF
    subst hz
    by_cases hbig : 400 < m
    · have HF := Lib.hid (hF.trans (if_pos hbig))
      clear hF hmm
      go_enter Try.func62, Try.ntmps62
      go_wp2_with fail
      refine HCS.out.mono ?_
      rintro e w1 ⟨rfl, hb1⟩
      go_wp2_with fail
      go_ret
      exact ⟨ret_int HF.out.symm, hb1⟩
    rw [if_neg hbig] at hF
    have HF : Hid (liveF wrongP xs ys = liveG wrongP xs (ys.take 0) (ys.drop 0)) := hF
    clear hF
    go_enter Try.func62, Try.ntmps62
    go_wp2_with fail
    refine HCS.out.mono ?_
    rintro e w1 ⟨rfl, hb1⟩
    have hS0 : Sq w ((w1.alloc (.map #[] 0)).alloc (.cells #[.map (some w1.heap.size), .slice none 0 0, .bool false] 118)) (shL w1.heap.size (w1.heap.size + 1) w1.heap.size 0 none 0 show0 []) := by
      have h := ((((((Sq.start w).callB hb1).addMap 9)).add #[.map (some w1.heap.size), .slice none 0 0, .bool false] 118).nil w1.heap.size 9 1)
      simp only [size1] at h
      have h3 := (((h.front 2 rfl rfl).front 2 rfl rfl).front 1 rfl rfl)
      refine Sq.front (i := 1) (l := rStg w1.heap.size 0 show0.st :: rBlk (w1.heap.size + 1) 118 #[.map (some w1.heap.size), .slice none 0 0, .bool false] :: rOwn w1.heap.size 9 1 (.slice none 0 0) 0 [] :: []) ?_ rfl rfl
      exact ⟨h3.below, h3.hp.tail.cons ⟨_, h3.head, fun _ => rfl⟩ (rStg_ok _ _ _) (fun k hk => h3.hp.new _ (List.mem_cons_self ..) k hk) (fun s hs k hk hk2 => (List.pairwise_cons.1 h3.hp.apart).1 s hs k hk hk2)⟩
    have hw1 : w.heap.size ≤ w1.heap.size := hb1.size
    clear hb1
    go_wp2_with fail
    clear hmm
    go_loopw [22] (fun i wr => ∃ (k : Nat) (A' : Option Addr) (c' : Nat), k ≤ m ∧ i = .int .i64 k ∧ Hid (liveF wrongP xs ys = liveG wrongP xs (ys.take k) (ys.drop k)) ∧ Sq w wr (shL w1.heap.size (w1.heap.size + 1) w1.heap.size k A' c' (stateP (ys.take k)) [])) (fun i _ => m - (intOf i).toNat)
    case atStart => exact ⟨0, none, 0, Nat.zero_le _, rfl, HF, hS0⟩
    case round =>
      clear HF hS0
      obtain ⟨k, A', c', hk, rfl, HF, hS⟩ := hrel
      by_cases hlt : k < m
      · have hkr : k < ys.length := by rw [HL2.out]; exact hlt
        obtain ⟨g, o, hA, _, hcs⟩ := HC2.out (by omega)
        subst hA
        obtain ⟨y, hy⟩ : ∃ y, ys[k] = y := ⟨_, rfl⟩
        have c0 := below_cell hS.below (hcs k hkr 0 (by omega))
        have c1 := below_cell hS.below (hcs k hkr 1 (by omega))
        have cc2 := below_cell hS.below (hcs k hkr 2 (by omega))
        have hok := HY.out _ (List.getElem_mem hkr)
        have HCP : Hid (∀ W, Below w.heap.size w W → ∀ i (hi : i < ys.length), W.cell? ⟨g, o + i * 3, none⟩ = some (.int .i64 ys[i].1)) := fun W hW i hi => below_cell hW (hcs i hi 0 (by omega))
        rw [hy] at c0 c1 cc2 hok
        obtain ⟨at_, kd, key⟩ := y
        replace c0 : wr.cell? ⟨g, o + k * 3, none⟩ = some (.int .i64 at_) := c0
        replace c1 : wr.cell? ⟨g, o + k * 3 + 1, none⟩ = some (.int .i64 kd) := c1
        replace cc2 : wr.cell? ⟨g, o + k * 3 + 2, none⟩ = some (.string key) := cc2
        obtain ⟨hat, hkb, hkz⟩ := hok
        simp only at hat hkb hkz
        have HKR := Lib.hid hkr
        have HBAD : Hid (∀ E : Int, lvE xs (ys.take k) (at_, kd, key) = E → E ≠ 0 → liveF wrongP xs ys = E) := fun E h hE => by
          rw [← hy] at h
          rw [HF.out]; exact live_bad (hk := hkr) h hE
        have HWR : Hid (lvE xs (ys.take k) (at_, kd, key) = 0 → wrongP (ys.take k) (at_, kd, key) = true → liveF wrongP xs ys = 11) := fun h hE => by
          rw [← hy] at h hE
          rw [HF.out]; exact live_wrong (hk := hkr) h hE
        have HNX : Hid (lvE xs (ys.take k) (at_, kd, key) = 0 → wrongP (ys.take k) (at_, kd, key) = false → liveF wrongP xs ys = liveG wrongP xs (ys.take (k + 1)) (ys.drop (k + 1))) := fun h hE => by
          rw [← hy] at h hE
          rw [HF.out]; exact live_next (hk := hkr) h hE
        have HST : Hid (stateP (ys.take (k + 1)) = (stepP (stateP (ys.take k)) (at_, kd, key)).getD (stateP (ys.take k))) := by
          rw [List.take_succ_eq_append_getElem hkr, stateP_snoc, hy]; exact Lib.hid rfl
        have hln : (stateP (ys.take k)).order.length ≤ k := Nat.le_trans (stateP_len _) (by simp; omega)
        obtain ⟨MB, hMB⟩ : ∃ B, momB at_ = B := ⟨_, rfl⟩
        obtain ⟨OB, hOB⟩ : ∃ B, outB kd 1 3 = B := ⟨_, rfl⟩
        obtain ⟨F1, hF1⟩ : ∃ F, findL xs key = F := ⟨_, rfl⟩
        have hSa := hS.add #[.int .i64 at_, .int .i64 kd, .string key] 103
        have HMC : Hid (∀ W, Calls Try.prog 93 #[.int .i64 at_] W (fun e w' => e = .returned (.bool MB) ∧ W = w')) := by rw [← hMB]; exact fun W => moment_calls at_ W
        have HOC : Hid (∀ W, Calls Try.prog 85 #[.int .i64 kd, .int .i64 1, .int .i64 3] W (fun e w' => e = .returned (.bool OB) ∧ W = w')) := by rw [← hOB]; exact fun W => out_calls _ _ _ W
        have HFC : Hid (∀ W, Below w.heap.size w W → Calls Try.prog 68 #[.slice A n c, .string key] W (BRet (.int .i64 F1) W)) := by rw [← hF1]; exact fun W hW => findL_calls b A n c xs key W (HR.out.rd.below hW)
        have HM := Lib.hid hMB
        have HO := Lib.hid hOB
        have HFI := Lib.hid hF1
        have hlz := hS.size
        have hbelow := hSa.below
        clear hcs hy hS hMB hOB hF1
        cases MB
        · have HS := Lib.hid (HBAD.out 1 (lvE_1 HM.out) (by decide))
          go_wp2_with fail
          refine (HMC.out _).mono ?_
          rintro e w2 ⟨rfl, rfl⟩
          go_wp2_with fail
          go_ret
          exact ⟨ret_int HS.out.symm, hbelow⟩
        cases OB
        case true =>
          have HS := Lib.hid (HBAD.out 4 (lvE_4 HM.out HO.out) (by decide))
          go_wp2_with fail
          refine (HMC.out _).mono ?_
          rintro e w2 ⟨rfl, rfl⟩
          go_wp2_with fail
          refine (HOC.out _).mono ?_
          rintro e w2 ⟨rfl, rfl⟩
          go_wp2_with fail
          go_ret
          exact ⟨ret_int HS.out.symm, hbelow⟩
        have hkd := kd_of HO.out
        go_wp2_with fail
        refine (HMC.out _).mono ?_
        rintro e w2 ⟨rfl, rfl⟩
        go_wp2_with fail
        refine (HOC.out _).mono ?_
        rintro e w2 ⟨rfl, rfl⟩
        go_wp2_with fail
        refine (HFC.out _ hbelow).mono ?_
        rintro e w3 ⟨rfl, hb3⟩
        have hSb := hSa.callB hb3
        have hbl3 := hSb.below
        have hbx : Blk w3 wr.heap.size 103 #[.int .i64 at_, .int .i64 kd, .string key] := hSb.nth 0 rfl
        have x0 := hbx.cell 0
        have x1 := hbx.cell 1
        have x2 := hbx.cell 2
        clear hbx hSa hbelow hb3 HMC HOC HFC c0 c1 cc2
        by_cases hneg : F1 < 0
        · have HS := Lib.hid (HBAD.out 8 (lvE_8 HM.out HO.out (by rw [HFI.out]; exact hneg)) (by decide))
          clear x0 x1 x2
          go_wp2_with fail
          go_ret
          exact ⟨ret_int HS.out.symm, hbl3⟩
        have HFN : Hid (¬ findL xs key < 0) := by rw [HFI.out]; exact hneg
        obtain ⟨LB, hLB⟩ : ∃ B, lateB (ys.take k) (at_, kd, key) = B := ⟨_, rfl⟩
        have HLB := Lib.hid hLB
        have hSc : ∀ W nq, W = w3.drewN nq → Sq w W (shL w1.heap.size (w1.heap.size + 1) w1.heap.size k A' c' (stateP (ys.take k)) [rBlk wr.heap.size 103 #[.int .i64 at_, .int .i64 kd, .string key]]) := fun W nq h => by
          subst h
          exact (((hSb.front 3 rfl rfl).front 3 rfl rfl).front 3 rfl rfl).drewN nq
        have HSC := Lib.hid hSc
        have hbq : ∀ nq, Below w.heap.size w (w3.drewN nq) := fun nq => below_drewN hbl3 nq
        have HBQ := Lib.hid hbq
        have hwz : w1.heap.size ≤ w3.heap.size := by
          have := Blk.lt (show Blk w3 (w1.heap.size + 1) _ _ from hSb.nth 1 rfl)
          omega
        clear hLB hSc hSb hbl3 hbq
        have HFIN : Hid (LB = false → ∀ nq, Calls Try.prog 109 #[.pointer (some ⟨w1.heap.size + 1, 0, none⟩), .agg #[.int .i64 at_, .int .i64 kd, .string key]] (w3.drewN nq) (fun e w' => ∃ A2 c3, e = .returned (.bool (!wrongP (ys.take k) (at_, kd, key))) ∧ Sq w w' (shL w1.heap.size (w1.heap.size + 1) w1.heap.size (k + 1) A2 c3 (stateP (ys.take (k + 1))) []))) := fun h nq => by
          refine (step_calls w w1.heap.size (w1.heap.size + 1) w1.heap.size k A' c' (stateP (ys.take k)) _ at_ kd key _ (HSC.out _ nq rfl) hkd (by omega) (by omega) hkz (by show w1.heap.size ≤ w3.heap.size; exact hwz)).mono ?_
          rintro e w' ⟨A2, c3, rfl, h5⟩
          refine ⟨A2, c3, ?_, ?_⟩
          · unfold wrongP
            cases stepP (stateP (List.take k ys)) (at_, kd, key) <;> rfl
          · rw [HST.out]
            exact h5.drop 3 rfl rfl
        by_cases hk0 : k = 0
        · subst hk0
          have hlb : LB = false := by rw [← HLB.out]; rfl
          subst hlb
          have h0 : lvE xs (ys.take 0) (at_, kd, key) = 0 := lvE_0 HM.out HO.out HFN.out HLB.out
          have HZ := Lib.hid h0
          clear h0
          go_wp2_with fail
          go_quiet (fail)
          have HLT := Lib.hid hlt
          clear x0 x1 x2 hlt
          have y0 : (w3.drewN nq).cell? ⟨wr.heap.size, 0, none⟩ = some (.int .i64 at_) := Blk.cell (show Blk (w3.drewN nq) wr.heap.size _ _ from (HSC.out _ nq rfl).nth 3 rfl) 0
          have y1 : (w3.drewN nq).cell? ⟨wr.heap.size, 1, none⟩ = some (.int .i64 kd) := Blk.cell (show Blk (w3.drewN nq) wr.heap.size _ _ from (HSC.out _ nq rfl).nth 3 rfl) 1
          have y2 : (w3.drewN nq).cell? ⟨wr.heap.size, 2, none⟩ = some (.string key) := Blk.cell (show Blk (w3.drewN nq) wr.heap.size _ _ from (HSC.out _ nq rfl).nth 3 rfl) 2
          go_wp2_with fail
          refine (HFIN.out (by first | rfl | trivial) nq).mono ?_
          rintro e w4 ⟨A4, c4, rfl, hS4⟩
          obtain ⟨WB, hWB⟩ : ∃ B, wrongP (ys.take 0) (at_, kd, key) = B := ⟨_, rfl⟩
          rw [hWB]
          have HWB := Lib.hid hWB
          clear hWB y0 y1 y2
          cases WB
          · have HS := Lib.hid (HNX.out HZ.out HWB.out)
            go_wp2_with fail
            go_roundw
            case rel => exact ⟨0 + 1, A4, c4, HLT.out, by go_num, HS, hS4⟩
            case measure => have := HLT.out; simp [intOf]; omega
          · have HS := Lib.hid (HWR.out HZ.out HWB.out)
            have hbf := hS4.below
            go_wp2_with fail
            go_ret
            exact ⟨ret_int HS.out.symm, hbf⟩
        · obtain ⟨q, rfl⟩ : ∃ q, k = q + 1 := ⟨k - 1, by omega⟩
          have hqr : q < ys.length := Nat.lt_of_succ_lt HKR.out
          have p0 := HCP.out w3 (HBQ.out 0) q hqr
          obtain ⟨pa, hpa⟩ : ∃ a, (ys[q]'hqr).1 = a := ⟨_, rfl⟩
          have hpb : -2199023255552 ≤ pa ∧ pa ≤ 2199023255552 := by rw [← hpa]; exact (HY.out _ (List.getElem_mem _)).1
          rw [hpa] at p0
          have hlb : LB = decide (at_ < pa) := by rw [← HLB.out, lateB_succ _ _ q hqr, hpa]
          obtain ⟨hpb0, hpb1⟩ := hpb
          have hq0 : (0 : Int) ≤ (q : Int) := by omega
          have hqm : (q : Int) < (m : Int) := by omega
          have hqe : ((q + 1 : Nat) : Int) - 1 = (q : Int) := by omega
          clear hpa hk0
          by_cases hlate : at_ < pa
          · have hlt2 : LB = true := by rw [hlb]; exact decide_eq_true hlate
            subst hlt2
            have HS := Lib.hid (HBAD.out 7 (lvE_7 HM.out HO.out HFN.out HLB.out) (by decide))
            clear hlb
            go_wp2_with fail
            go_quiet (fail)
            clear x0 x1 x2 p0
            have hbf := HBQ.out nq
            go_wp2_with fail
            go_ret
            exact ⟨ret_int HS.out.symm, hbf⟩
          · have hlt2 : LB = false := by rw [hlb]; exact decide_eq_false hlate
            subst hlt2
            have HZ := Lib.hid (lvE_0 HM.out HO.out HFN.out HLB.out)
            clear hlb
            go_wp2_with fail
            go_quiet (fail)
            clear x0 x1 x2 p0
            have y0 : (w3.drewN nq).cell? ⟨wr.heap.size, 0, none⟩ = some (.int .i64 at_) := Blk.cell (show Blk (w3.drewN nq) wr.heap.size _ _ from (HSC.out _ nq rfl).nth 3 rfl) 0
            have y1 : (w3.drewN nq).cell? ⟨wr.heap.size, 1, none⟩ = some (.int .i64 kd) := Blk.cell (show Blk (w3.drewN nq) wr.heap.size _ _ from (HSC.out _ nq rfl).nth 3 rfl) 1
            have y2 : (w3.drewN nq).cell? ⟨wr.heap.size, 2, none⟩ = some (.string key) := Blk.cell (show Blk (w3.drewN nq) wr.heap.size _ _ from (HSC.out _ nq rfl).nth 3 rfl) 2
            go_wp2_with fail
            refine (HFIN.out (by first | rfl | trivial) nq).mono ?_
            rintro e w4 ⟨A4, c4, rfl, hS4⟩
            obtain ⟨WB, hWB⟩ : ∃ B, wrongP (ys.take (q + 1)) (at_, kd, key) = B := ⟨_, rfl⟩
            rw [hWB]
            have HWB := Lib.hid hWB
            clear hWB y0 y1 y2
            cases WB
            · have HS := Lib.hid (HNX.out HZ.out HWB.out)
              go_wp2_with fail
              go_roundw
              case rel => exact ⟨q + 1 + 1, A4, c4, by omega, by go_num, HS, hS4⟩
              case measure => simp [intOf]; omega
            · have HS := Lib.hid (HWR.out HZ.out HWB.out)
              have hbf := hS4.below
              go_wp2_with fail
              go_ret
              exact ⟨ret_int HS.out.symm, hbf⟩
      · obtain rfl : k = m := by omega
        have HS := Lib.hid (HF.out.trans (by rw [List.drop_of_length_le (by rw [HL2.out]; exact Nat.le_refl _)]; rfl : _ = (0 : Int)))
        have hbf := hS.below
        go_wp2_with fail
        go_ret
        exact ⟨ret_int HS.out.symm, hbf⟩
  · have HF := Lib.hid (hF.trans (if_neg hz))
    have hz' : (E != 0) = true := by rw [bne_iff_ne]; exact hz
    clear hF hmm
    go_enter Try.func62, Try.ntmps62
    go_wp2_with fail
    refine HCS.out.mono ?_
    rintro e w1 ⟨rfl, hb1⟩
    go_wp2_with fail
    go_ret
    exact ⟨ret_int HF.out.symm, hb1⟩
end Go.Proofs.Ytknojcomgccpeaa

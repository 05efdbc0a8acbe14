/-
  Slots and ShowTime of the stream by contracts. (Printed by gen_slot13.py.)
-/
import Derived.Test.YtaendemgkabdfaaGreatDoorZSlot12
namespace Go.Proofs.YtaendemgkabdfaaGreatDoor
open Go Go.RowKit
attribute [local go_sem ↓] Go.wp_at_zero Go.wp_at_succ

theorem sltD (xs : List Slt) (x : Slt) (base : Nat) (W : World) (g n c j : Nat) (o : W.ownsRow base 52 5 (.slice (some ⟨g, 0, none⟩) n c) n (xs.flatMap sltC)) (hj : j < xs.length) (hn : j < n) (hx : xs[j] = x) :
    W.cell? ⟨g, j * 5, none⟩ = some (.string x.key) ∧ W.cell? ⟨g, j * 5 + 1, none⟩ = some (.string x.who) ∧ W.cell? ⟨g, j * 5 + 2, none⟩ = some (.slice x.ha x.hosts.length x.hc) ∧ W.cell? ⟨g, j * 5 + 3, none⟩ = some (.int .i64 x.setup) ∧ W.cell? ⟨g, j * 5 + 4, none⟩ = some (.int .i64 x.long) ∧
    W.frozen? ⟨g, j * 5, none⟩ = false ∧ W.frozen? ⟨g, j * 5 + 1, none⟩ = false ∧ W.frozen? ⟨g, j * 5 + 2, none⟩ = false ∧ W.frozen? ⟨g, j * 5 + 3, none⟩ = false ∧ W.frozen? ⟨g, j * 5 + 4, none⟩ = false := by
  subst hx
  exact ⟨own_cell sltC 5 sltC_len o j 0 hj hn (by omega), own_cell sltC 5 sltC_len o j 1 hj hn (by omega), own_cell sltC 5 sltC_len o j 2 hj hn (by omega), own_cell sltC 5 sltC_len o j 3 hj hn (by omega), own_cell sltC 5 sltC_len o j 4 hj hn (by omega), o.frozenAt _, o.frozenAt _, o.frozenAt _, o.frozenAt _, o.frozenAt _⟩
theorem slots_field {w W : World} {b K g n c j : Nat} {xs : List Slt} {l : List Rsc} (h : Sp w b K W (rOwn w.heap.size 52 5 (.slice (some ⟨g, 0, none⟩) n c) n (xs.flatMap sltC) :: rAll (hostR w.heap.size) xs :: l)) (hn : n = xs.length) (hj : j < xs.length) (i : Nat) (hi : i < 5) (u : Value) (x' : Slt)
    (hr : sltC x' = (sltC xs[j]).set i u) (hs : hostR w.heap.size x' = hostR w.heap.size xs[j]) :
    Sp w b K (W.setCell ⟨g, j * 5 + i, none⟩ u) (rOwn w.heap.size 52 5 (.slice (some ⟨g, 0, none⟩) n c) n ((xs.set j x').flatMap sltC) :: rAll (hostR w.heap.size) (xs.set j x') :: l) := by
  subst hn
  have h1 := h.field sltC 5 sltC_len j i hj hi u x' hr
  rw [List.length_set] at h1
  exact ((h1.front 1 rfl rfl).allSame (hostR_ok _) j hj x' hs).front 1 rfl rfl
theorem slots_field2 {w W : World} {b K g n c j : Nat} {xs : List Slt} {l : List Rsc} (h : Sp w b K W (rOwn w.heap.size 52 5 (.slice (some ⟨g, 0, none⟩) n c) n (xs.flatMap sltC) :: rAll (hostR w.heap.size) xs :: l)) (hn : n = xs.length) (hj : j < xs.length) (i i2 : Nat) (hi : i < 5) (hi2 : i2 < 5) (u u2 : Value) (x' x2 : Slt)
    (hr : sltC x' = (sltC xs[j]).set i u) (hs : hostR w.heap.size x' = hostR w.heap.size xs[j]) (hr2 : sltC x2 = (sltC x').set i2 u2) (hs2 : hostR w.heap.size x2 = hostR w.heap.size x') :
    Sp w b K ((W.setCell ⟨g, j * 5 + i, none⟩ u).setCell ⟨g, j * 5 + i2, none⟩ u2) (rOwn w.heap.size 52 5 (.slice (some ⟨g, 0, none⟩) n c) n ((xs.set j x2).flatMap sltC) :: rAll (hostR w.heap.size) (xs.set j x2) :: l) := by
  have h1 := slots_field h hn hj i hi u x' hr hs
  have hg : ∀ h, (xs.set j x')[j]'h = x' := fun h => by rw [List.getElem_set_self]
  have h2 := slots_field h1 (by rw [List.length_set]; exact hn) (by rw [List.length_set]; exact hj) i2 hi2 u2 x2 (by rw [hg]; exact hr2) (by rw [hg]; exact hs2)
  rw [List.set_set] at h2
  exact h2
theorem slots_hosts {w W : World} {b K g n c j : Nat} {xs : List Slt} {x' : Slt} (h : Sp w b K W [hostR w.heap.size x', rOwn w.heap.size 52 5 (.slice (some ⟨g, 0, none⟩) n c) n (xs.flatMap sltC), rAll (hostR w.heap.size) xs]) (hn : n = xs.length) (hj : j < xs.length)
    (hr : sltC x' = (sltC xs[j]).set 2 (.slice x'.ha x'.hosts.length x'.hc)) :
    Sp w b K (W.setCell ⟨g, j * 5 + 2, none⟩ (.slice x'.ha x'.hosts.length x'.hc)) [rOwn w.heap.size 52 5 (.slice (some ⟨g, 0, none⟩) n c) n ((xs.set j x').flatMap sltC), rAll (hostR w.heap.size) (xs.set j x')] := by
  subst hn
  have h1 := (h.front 1 rfl rfl).field sltC 5 sltC_len j 2 hj (by omega) _ x' hr
  rw [List.length_set] at h1
  exact (((h1.front 2 rfl rfl).front 2 rfl rfl).allSet j (hostR_ok _)).front 1 rfl rfl
theorem lit_v {s : ByteArray} {cs : List Value} (h : s.size ≤ 1000) (hc : ∀ x ∈ cs, ∃ z, x = .string z ∧ z.size ≤ 1000) : ∀ x ∈ Value.string s :: cs, ∃ z, x = .string z ∧ z.size ≤ 1000 := by
  intro x hx
  rcases List.mem_cons.1 hx with rfl | hx
  · exact ⟨s, rfl, h⟩
  · exact hc x hx

set_option maxRecDepth 100000 in
set_option maxHeartbeats 4000000 in
theorem slots_calls (b K m : Nat) (w : World) (hs : Strm w b K) (hK : K ≤ 900000) (hm : m ≤ 5) :
    Calls Tryz.prog 15 #[.pointer (some ⟨b, 0, none⟩), .int .i64 m] w (SlotsS b (K + 50) m 4 w) := by
  obtain ⟨j0, hj, hy0, hy1, hy2⟩ := info_parts info_str
  go_enter Tryz.func15, Tryz.ntmps15
  go_wp2_with fail
  refine (rightSlots_calls b K m w hs hK hm).mono ?_
  rintro e w1 ⟨v, xs, rfl, hxm, hz, hS⟩
  clear hs
  obtain ⟨n, hn⟩ : ∃ n, xs.length = n := ⟨_, rfl⟩
  rw [hn] at hS hxm
  obtain ⟨A, c, hv⟩ := own_form (show w1.ownsRow _ _ _ v n _ from hS.head)
  subst hv
  by_cases h0 : n = 0
  · subst h0
    go_wp2_with fail
    go_ret
    exact ⟨_, xs, rfl, by omega, hz.more (by omega), by rw [hn]; exact hS.more (by omega)⟩
  · have hn0 : (0 : Int) < (n : Int) := by omega
    go_wp2_with fail
    refine (sp_flip hS 12 (by omega) (by omega) (by omega)).mono ?_
    rintro e w2 ⟨_, rfl, ⟨fv, rfl⟩, hS2⟩
    clear hS
    cases fv
    · go_wp2_with fail
      go_ret
      exact ⟨_, xs, rfl, by omega, hz.more (by omega), by rw [hn]; exact hS2.more (by omega)⟩
    · go_wp2_with fail
      refine (sp_next hS2 n (by omega) (by omega) (by omega)).mono ?_
      rintro e w3 ⟨_, rfl, ⟨jv, rfl, jv0, jv1⟩, hS3⟩
      obtain ⟨j, rfl⟩ := Int.eq_ofNat_of_zero_le jv0
      have hjn : j < n := by omega
      have hjr : j < xs.length := by omega
      obtain ⟨g, cap, hv, _⟩ := World.ownsRow.form (show w3.ownsRow _ _ _ (.slice A n c) n _ from hS3.head) (by omega)
      injection hv with hA _ hc
      subst hA hc
      have hj0 : (0 : Int) ≤ (j : Int) := by omega
      have hj1 : (j : Int) < (n : Int) := by omega
      clear hS2
      go_wp2_with fail
      refine (sp_next hS3 3 (by omega) (by omega) (by omega)).mono ?_
      rintro e w6 ⟨_, rfl, ⟨zv, rfl, zv0, zv1⟩, hS⟩
      clear hS3 jv0 jv1
      obtain ⟨x, hx⟩ : ∃ x, xs[j] = x := ⟨_, rfl⟩
      have hxz : SltZ 3 x := by rw [← hx]; exact hz _ (List.getElem_mem hjr)
      have hD := sltD xs x w.heap.size w6 g n c j hS.head hjr hjn hx
      have HDD : Hid (∀ W K', Sp w b K' W [rOwn w.heap.size 52 5 (.slice (some ⟨g, 0, none⟩) n c) n (xs.flatMap sltC), rAll (hostR w.heap.size) xs] → _) := fun W K' h => sltD xs x w.heap.size W g n c j h.head hjr hjn hx
      have hpost : ∀ W K' y, K' ≤ K + 50 → SltZ 4 y → Sp w b K' W [rOwn w.heap.size 52 5 (.slice (some ⟨g, 0, none⟩) n c) n ((xs.set j y).flatMap sltC), rAll (hostR w.heap.size) (xs.set j y)] → SlotsS b (K + 50) m 4 w (.returned (.slice (some ⟨g, 0, none⟩) n c)) W := by
        intro W K' y hK' hy hSp
        refine ⟨_, xs.set j y, rfl, by rw [List.length_set]; omega, (hz.more (by omega)).set j hy, ?_⟩
        have hl : (xs.set j y).length = n := by rw [List.length_set]; exact hn
        rw [hl]
        exact hSp.more hK'
      have HP := Lib.hid hpost
      have hnS : n = xs.length := hn.symm
      have HN := Lib.hid hnS
      have HX := Lib.hid hx
      have HXZ := Lib.hid hxz
      have hbz := hS.size
      have hg3 : g < w6.heap.size := (World.ownsRow.lt (show w6.ownsRow _ _ _ _ n _ from hS.head) g rfl).2
      have hg4 : w.heap.size ≤ g := (World.ownsRow.lt (show w6.ownsRow _ _ _ _ n _ from hS.head) g rfl).1
      have HSZ := Lib.hid hz
      clear hpost hz hnS hn hx
      rcases (show zv = 0 ∨ zv = 1 ∨ zv = 2 by omega) with rfl | rfl | rfl
      · clear zv0 zv1
        obtain ⟨k0, k1, _⟩ := hD
        have HA : Hid (Calls Tryz.prog 29 #[.pointer (some ⟨b, 0, none⟩), .slice (some ⟨w6.heap.size, 0, none⟩) 3 3] (w6.alloc (.cells #[.string x.key, .string ⟨#[]⟩, .string ⟨#[115, 97]⟩] 9)).drew (SpS IsStr w b (K + 39) [rBlk w6.heap.size 9 #[.string x.key, .string ⟨#[]⟩, .string ⟨#[115, 97]⟩], rOwn w.heap.size 52 5 (.slice (some ⟨g, 0, none⟩) n c) n (xs.flatMap sltC), rAll (hostR w.heap.size) xs])) :=
          sp_some (hS.add #[.string x.key, .string ⟨#[]⟩, .string ⟨#[115, 97]⟩] 9).drew 0 (g := w6.heap.size) (n := 3) (t := 9) (cs := #[.string x.key, .string ⟨#[]⟩, .string ⟨#[115, 97]⟩]) rfl (by decide) (by decide) rfl (lit_v hxz.hk (strLit_ok (cs := #[.string ⟨#[]⟩, .string ⟨#[115, 97]⟩]) rfl)) (by omega)
        have HB : Hid (Calls Tryz.prog 29 #[.pointer (some ⟨b, 0, none⟩), .slice (some ⟨w6.heap.size, 0, none⟩) 3 3] ((w6.alloc (.cells #[.string x.key, .string ⟨#[]⟩, .string ⟨#[115, 97]⟩] 9)).alloc (.cells #[.string x.who, .string ⟨#[65]⟩] 9)).drew (SpS IsStr w b (K + 39) [rBlk (w6.heap.size + 1) 9 #[.string x.who, .string ⟨#[65]⟩], rBlk w6.heap.size 9 #[.string x.key, .string ⟨#[]⟩, .string ⟨#[115, 97]⟩], rOwn w.heap.size 52 5 (.slice (some ⟨g, 0, none⟩) n c) n (xs.flatMap sltC), rAll (hostR w.heap.size) xs])) := by
          have h := ((hS.add #[.string x.key, .string ⟨#[]⟩, .string ⟨#[115, 97]⟩] 9).add #[.string x.who, .string ⟨#[65]⟩] 9).drew
          simp only [size1] at h
          exact sp_some h 1 (g := w6.heap.size) (n := 3) (t := 9) (cs := #[.string x.key, .string ⟨#[]⟩, .string ⟨#[115, 97]⟩]) rfl (by decide) (by decide) rfl (lit_v hxz.hk (strLit_ok (cs := #[.string ⟨#[]⟩, .string ⟨#[115, 97]⟩]) rfl)) (by omega)
        have HC : Hid (Calls Tryz.prog 29 #[.pointer (some ⟨b, 0, none⟩), .slice (some ⟨w6.heap.size + 1, 0, none⟩) 3 3] ((w6.alloc (.cells #[.string x.who, .string ⟨#[65]⟩] 9)).alloc (.cells #[.string x.key, .string ⟨#[]⟩, .string ⟨#[115, 97]⟩] 9)).drew (SpS IsStr w b (K + 39) [rBlk (w6.heap.size + 1) 9 #[.string x.key, .string ⟨#[]⟩, .string ⟨#[115, 97]⟩], rBlk w6.heap.size 9 #[.string x.who, .string ⟨#[65]⟩], rOwn w.heap.size 52 5 (.slice (some ⟨g, 0, none⟩) n c) n (xs.flatMap sltC), rAll (hostR w.heap.size) xs])) := by
          have h := ((hS.add #[.string x.who, .string ⟨#[65]⟩] 9).add #[.string x.key, .string ⟨#[]⟩, .string ⟨#[115, 97]⟩] 9).drew
          simp only [size1] at h
          exact sp_some h 0 (g := w6.heap.size + 1) (n := 3) (t := 9) (cs := #[.string x.key, .string ⟨#[]⟩, .string ⟨#[115, 97]⟩]) rfl (by decide) (by decide) rfl (lit_v hxz.hk (strLit_ok (cs := #[.string ⟨#[]⟩, .string ⟨#[115, 97]⟩]) rfl)) (by omega)
        have H2L : Hid (∀ W, Sp w b (K + 39) W [rBlk w6.heap.size 9 #[.string x.key, .string ⟨#[]⟩, .string ⟨#[115, 97]⟩], rOwn w.heap.size 52 5 (.slice (some ⟨g, 0, none⟩) n c) n (xs.flatMap sltC), rAll (hostR w.heap.size) xs] → Calls Tryz.prog 29 #[.pointer (some ⟨b, 0, none⟩), .slice (some ⟨W.heap.size, 0, none⟩) 2 2] (W.alloc (.cells #[.string x.who, .string ⟨#[65]⟩] 9)) (SpS IsStr w b (K + 40) [rOwn w.heap.size 52 5 (.slice (some ⟨g, 0, none⟩) n c) n (xs.flatMap sltC), rAll (hostR w.heap.size) xs])) := fun W h =>
          sp_someL h.tail #[.string x.who, .string ⟨#[65]⟩] 9 2 (by decide) (by decide) rfl (lit_v hxz.hw (strLit_ok (cs := #[.string ⟨#[65]⟩]) rfl)) (by omega)
        have H2B : Hid (∀ W, Sp w b (K + 39) W [rBlk (w6.heap.size + 1) 9 #[.string x.who, .string ⟨#[65]⟩], rBlk w6.heap.size 9 #[.string x.key, .string ⟨#[]⟩, .string ⟨#[115, 97]⟩], rOwn w.heap.size 52 5 (.slice (some ⟨g, 0, none⟩) n c) n (xs.flatMap sltC), rAll (hostR w.heap.size) xs] → Calls Tryz.prog 29 #[.pointer (some ⟨b, 0, none⟩), .slice (some ⟨w6.heap.size + 1, 0, none⟩) 2 2] W (SpS IsStr w b (K + 40) [rOwn w.heap.size 52 5 (.slice (some ⟨g, 0, none⟩) n c) n (xs.flatMap sltC), rAll (hostR w.heap.size) xs])) := fun W h =>
          (sp_some h 0 (g := w6.heap.size + 1) (n := 2) (t := 9) (cs := #[.string x.who, .string ⟨#[65]⟩]) rfl (by decide) (by decide) rfl (lit_v hxz.hw (strLit_ok (cs := #[.string ⟨#[65]⟩]) rfl)) (by omega)).mono (fun e w' ⟨v, he, h1, hs⟩ => ⟨v, he, h1, hs.tail.tail⟩)
        have H2C : Hid (∀ W, Sp w b (K + 39) W [rBlk (w6.heap.size + 1) 9 #[.string x.key, .string ⟨#[]⟩, .string ⟨#[115, 97]⟩], rBlk w6.heap.size 9 #[.string x.who, .string ⟨#[65]⟩], rOwn w.heap.size 52 5 (.slice (some ⟨g, 0, none⟩) n c) n (xs.flatMap sltC), rAll (hostR w.heap.size) xs] → Calls Tryz.prog 29 #[.pointer (some ⟨b, 0, none⟩), .slice (some ⟨w6.heap.size, 0, none⟩) 2 2] W (SpS IsStr w b (K + 40) [rOwn w.heap.size 52 5 (.slice (some ⟨g, 0, none⟩) n c) n (xs.flatMap sltC), rAll (hostR w.heap.size) xs])) := fun W h =>
          (sp_some h 1 (g := w6.heap.size) (n := 2) (t := 9) (cs := #[.string x.who, .string ⟨#[65]⟩]) rfl (by decide) (by decide) rfl (lit_v hxz.hw (strLit_ok (cs := #[.string ⟨#[65]⟩]) rfl)) (by omega)).mono (fun e w' ⟨v, he, h1, hs⟩ => ⟨v, he, h1, hs.tail.tail⟩)
        have HK1 : Hid (∀ W l K', Sp w b K' W l → l[l.length - 2]? = some (rOwn w.heap.size 52 5 (.slice (some ⟨g, 0, none⟩) n c) n (xs.flatMap sltC)) → W.cell? ⟨g, j * 5 + 1, none⟩ = some (.string x.who)) := fun W l K' h hl => (sltD xs x w.heap.size W g n c j (h.nth _ hl) hjr hjn HX.out).2.1
        have HDE := HDD
        clear hS HDD hxz
        go_wp2_with fail
        go_region_law (first
          | (go_simp; go_at_call 29; ((with_reducible refine HA.out.mono ?_); rintro e w7 ⟨_, rfl, ⟨y1, rfl, hy1s⟩, hT1⟩; have k1b := HK1.out _ _ _ hT1 rfl))
          | (go_simp; go_at_call 29; ((with_reducible refine HB.out.mono ?_); rintro e w7 ⟨_, rfl, ⟨y1, rfl, hy1s⟩, hT2⟩; have k1b := HK1.out _ _ _ hT2 rfl))
          | (go_simp; go_at_call 29; ((with_reducible refine HC.out.mono ?_); rintro e w7 ⟨_, rfl, ⟨y1, rfl, hy1s⟩, hT3⟩; have k1b := HK1.out _ _ _ hT3 rfl))
          | (go_simp; go_at_call 29; ((with_reducible refine (H2L.out _ hT1).mono ?_); rintro e w8 ⟨_, rfl, ⟨y2, rfl, hy2s⟩, hU⟩; obtain ⟨m0, m1, m2, m3, m4, n0, n1, n2, n3, n4⟩ := HDE.out _ _ hU))
          | (go_simp; go_at_call 29; ((with_reducible refine (H2B.out _ hT2).mono ?_); rintro e w8 ⟨_, rfl, ⟨y2, rfl, hy2s⟩, hU⟩; obtain ⟨m0, m1, m2, m3, m4, n0, n1, n2, n3, n4⟩ := HDE.out _ _ hU))
          | (go_simp; go_at_call 29; ((with_reducible refine (H2C.out _ hT3).mono ?_); rintro e w8 ⟨_, rfl, ⟨y2, rfl, hy2s⟩, hU⟩; obtain ⟨m0, m1, m2, m3, m4, n0, n1, n2, n3, n4⟩ := HDE.out _ _ hU)))
        all_goals
          have hV := slots_field2 hU HN.out hjr 0 1 (by omega) (by omega) (.string y1) (.string y2) { x with key := y1 } { x with key := y1, who := y2 } (by rw [HX.out]; rfl) (by rw [HX.out]; rfl) rfl rfl
          go_wp2_with fail
          go_ret
          exact HP.out _ _ { x with key := y1, who := y2 } (by omega) ⟨hy1s, hy2s, HXZ.out.hh, Nat.le_succ_of_le HXZ.out.hn, HXZ.out.hs, HXZ.out.hl⟩ hV
      · clear zv0 zv1
        obtain ⟨k0, k1, k2, _⟩ := hD
        have hhn := hxz.hn
        have HRH : Rd w6 b 1 (.slice x.ha x.hosts.length x.hc) x.hosts.length (strsV x.hosts) := by
          have h : ∀ a ∈ xs, (hostR w.heap.size a).P w6 := hS.nth 1 rfl
          exact Rd.own (h x (by rw [← HX.out]; exact List.getElem_mem hjr)) hS.hb
        obtain ⟨q, hq⟩ : ∃ q, x.hosts.length = q := ⟨_, rfl⟩
        have HA1 : Hid (Calls Tryz.prog 54 #[.slice x.ha q x.hc] w6.drew (fun e w' => ∃ v, e = .returned v ∧ Sp w b (K + 38) w' [rOwn w.heap.size 9 1 v q (strsV x.hosts), rOwn w.heap.size 52 5 (.slice (some ⟨g, 0, none⟩) n c) n (xs.flatMap sltC), rAll (hostR w.heap.size) xs])) := by
          rw [← hq]
          exact (cloneS_calls b x.ha x.hosts.length x.hc (strsV x.hosts) w6.drew (HRH.below (below_drewN (Below.refl _ _) 1)) (strsV_one _) (by omega)).mono (fun e w' ⟨v, he, ho, hb⟩ => ⟨v, he, hS.drew.ownB hb ho⟩)
        have HA2 : Hid (Calls Tryz.prog 54 #[.slice x.ha q x.hc] (w6.alloc (.cells #[.string ⟨#[122, 101, 100]⟩, .string ⟨#[97, 110, 110]⟩, .string ⟨#[]⟩, .string x.who] 9)).drew (fun e w' => ∃ v, e = .returned v ∧ Sp w b (K + 38) w' [rOwn w.heap.size 9 1 v q (strsV x.hosts), rBlk w6.heap.size 9 #[.string ⟨#[122, 101, 100]⟩, .string ⟨#[97, 110, 110]⟩, .string ⟨#[]⟩, .string x.who], rOwn w.heap.size 52 5 (.slice (some ⟨g, 0, none⟩) n c) n (xs.flatMap sltC), rAll (hostR w.heap.size) xs])) := by
          rw [← hq]
          exact (cloneS_calls b x.ha x.hosts.length x.hc (strsV x.hosts) (w6.alloc (.cells #[.string ⟨#[122, 101, 100]⟩, .string ⟨#[97, 110, 110]⟩, .string ⟨#[]⟩, .string x.who] 9)).drew ((HRH.below ((Below.refl _ _).alloc (Nat.le_refl _) _)).below (below_drewN (Below.refl _ _) 1)) (strsV_one _) (by omega)).mono (fun e w' ⟨v, he, ho, hb⟩ => ⟨v, he, (hS.add #[.string ⟨#[122, 101, 100]⟩, .string ⟨#[97, 110, 110]⟩, .string ⟨#[]⟩, .string x.who] 9).drew.ownB hb ho⟩)
        have hL4 : ∀ z ∈ (#[.string ⟨#[122, 101, 100]⟩, .string ⟨#[97, 110, 110]⟩, .string ⟨#[]⟩, .string x.who] : Array Value).toList, ∃ y, z = .string y ∧ y.size ≤ 1000 := by
          have := lit_v hxz.hw (strLit_ok (cs := #[.string ⟨#[122, 101, 100]⟩, .string ⟨#[97, 110, 110]⟩, .string ⟨#[]⟩]) rfl)
          intro z hz
          exact this z (by simp at hz ⊢; rcases hz with h | h | h | h <;> simp [h])
        have HS1 : Hid (∀ W v, Sp w b (K + 38) W [rOwn w.heap.size 9 1 v q (strsV x.hosts), rOwn w.heap.size 52 5 (.slice (some ⟨g, 0, none⟩) n c) n (xs.flatMap sltC), rAll (hostR w.heap.size) xs] → Calls Tryz.prog 29 #[.pointer (some ⟨b, 0, none⟩), .slice (some ⟨W.heap.size, 0, none⟩) 4 4] (W.alloc (.cells #[.string ⟨#[122, 101, 100]⟩, .string ⟨#[97, 110, 110]⟩, .string ⟨#[]⟩, .string x.who] 9)) (SpS IsStr w b (K + 39) [rOwn w.heap.size 9 1 v q (strsV x.hosts), rOwn w.heap.size 52 5 (.slice (some ⟨g, 0, none⟩) n c) n (xs.flatMap sltC), rAll (hostR w.heap.size) xs])) := fun W v h =>
          sp_someL h #[.string ⟨#[122, 101, 100]⟩, .string ⟨#[97, 110, 110]⟩, .string ⟨#[]⟩, .string x.who] 9 4 (by decide) (by decide) rfl hL4 (by omega)
        have HS2 : Hid (∀ W v, Sp w b (K + 38) W [rOwn w.heap.size 9 1 v q (strsV x.hosts), rBlk w6.heap.size 9 #[.string ⟨#[122, 101, 100]⟩, .string ⟨#[97, 110, 110]⟩, .string ⟨#[]⟩, .string x.who], rOwn w.heap.size 52 5 (.slice (some ⟨g, 0, none⟩) n c) n (xs.flatMap sltC), rAll (hostR w.heap.size) xs] → Calls Tryz.prog 29 #[.pointer (some ⟨b, 0, none⟩), .slice (some ⟨w6.heap.size, 0, none⟩) 4 4] W (SpS IsStr w b (K + 39) [rOwn w.heap.size 9 1 v q (strsV x.hosts), rOwn w.heap.size 52 5 (.slice (some ⟨g, 0, none⟩) n c) n (xs.flatMap sltC), rAll (hostR w.heap.size) xs])) := fun W v h =>
          (sp_some h 1 (g := w6.heap.size) (n := 4) (t := 9) (cs := #[.string ⟨#[122, 101, 100]⟩, .string ⟨#[97, 110, 110]⟩, .string ⟨#[]⟩, .string x.who]) rfl (by decide) (by decide) rfl hL4 (by omega)).mono (fun e w' ⟨v, he, h1, hs⟩ => ⟨v, he, h1, hs.drop 1 rfl rfl⟩)
        have HK1 : Hid (∀ W l K', Sp w b K' W l → l[l.length - 2]? = some (rOwn w.heap.size 52 5 (.slice (some ⟨g, 0, none⟩) n c) n (xs.flatMap sltC)) → W.cell? ⟨g, j * 5 + 1, none⟩ = some (.string x.who)) := fun W l K' h hl => (sltD xs x w.heap.size W g n c j (h.nth _ hl) hjr hjn HX.out).2.1
        have HK2 : Hid (∀ W l K', Sp w b K' W l → l[1]? = some (rOwn w.heap.size 52 5 (.slice (some ⟨g, 0, none⟩) n c) n (xs.flatMap sltC)) → W.cell? ⟨g, j * 5 + 2, none⟩ = some (.slice x.ha q x.hc) ∧ W.frozen? ⟨g, j * 5 + 2, none⟩ = false) := fun W l K' h hl => by
          obtain ⟨_, _, h2, _, _, _, _, h3, _⟩ := sltD xs x w.heap.size W g n c j (h.nth _ hl) hjr hjn HX.out
          rw [hq] at h2
          exact ⟨h2, h3⟩
        have HQ := Lib.hid hq
        rw [hq] at k2 hhn
        have h63 : q + 1 ≤ maxLen := by unfold maxLen; omega
        have hby : (q + 1) * 16 ≤ 140737488355328 := by omega
        clear hS HDD hxz hL4 HRH hq k0
        go_wp2_with fail
        go_region_law (first
          | (go_simp; go_at_call 54; ((with_reducible refine HA1.out.mono ?_); rintro e w7 ⟨v7, rfl, hT1⟩; have k1b := HK1.out _ _ _ hT1 rfl))
          | (go_simp; go_at_call 54; ((with_reducible refine HA2.out.mono ?_); rintro e w7 ⟨v7, rfl, hT2⟩; have k1b := HK1.out _ _ _ hT2 rfl))
          | (go_simp; go_at_call 29; ((with_reducible refine (HS1.out _ _ hT1).mono ?_); rintro e w8 ⟨_, rfl, ⟨y1, rfl, hy1s⟩, hU⟩))
          | (go_simp; go_at_call 29; ((with_reducible refine (HS2.out _ _ hT2).mono ?_); rintro e w8 ⟨_, rfl, ⟨y1, rfl, hy1s⟩, hU⟩))
          | (refine step_append_lies _ (by rfl) _ _ _ (by rfl) w.heap.size 9 j0 (.string ⟨#[]⟩) 1 16 Tryz.underlying50 hj hy0 hy1 hy2 rfl (by omega) v7 q (strsV x.hosts) (by rfl) ((hU.alloc _).head) ⟨w8.heap.size, 0, none⟩ 1 1 [.string y1] (by rfl) (by rfl) (news_new _ _ _ _ rfl) (one1 rfl) (by omega) h63 hby (base1 hU.size _) _ rfl ?_; intro g2 cap2 w9 hown' hgrow hblk hlt9; have hV := (hU.alloc _).append hown' hgrow (own_lies hblk); have m2 := HK2.out _ _ _ hV rfl; clear hown' hgrow hblk))
        all_goals
          have hW := slots_hosts (x' := { x with ha := some ⟨g2, 0, none⟩, hc := cap2, hosts := x.hosts ++ [y1] }) (by
            have h := hV
            unfold hostR
            simp only [List.length_append, HQ.out, List.length_singleton]
            unfold strsV at h ⊢
            rw [List.map_append]
            exact h) HN.out hjr (by rw [HX.out]; rfl)
          simp only [List.length_append, HQ.out, List.length_singleton] at hW
          go_wp2_with fail
          go_ret
          refine HP.out _ _ _ ?_ ?_ hW
          · omega
          · exact ⟨HXZ.out.hk, HXZ.out.hw, (by intro s hs; rcases List.mem_append.1 hs with hs | hs; exact HXZ.out.hh s hs; simp at hs; subst hs; exact hy1s), by have := HXZ.out.hn; simp; omega, HXZ.out.hs, HXZ.out.hl⟩
      · clear zv0 zv1 hD
        have HDE := HDD
        clear hxz HDD
        go_wp2_with fail
        refine (sp_odd hS 0 100 (by omega) (by omega) (by omega) (by omega)).mono ?_
        rintro e w7 ⟨_, rfl, ⟨p, rfl, p0, p1⟩, hT⟩
        clear hS
        go_wp2_with fail
        refine (sp_odd hT 1 100 (by omega) (by omega) (by omega) (by omega)).mono ?_
        rintro e w8 ⟨_, rfl, ⟨q, rfl, q0, q1⟩, hU⟩
        clear hT
        obtain ⟨m0, m1, m2, m3, m4, n0, n1, n2, n3, n4⟩ := HDE.out _ _ hU
        have hV := slots_field2 hU HN.out hjr 3 4 (by omega) (by omega) (.int .i64 p) (.int .i64 q) { x with setup := p } { x with setup := p, long := q } (by rw [HX.out]; rfl) (by rw [HX.out]; rfl) rfl rfl
        clear hU m0 m1 m2 n0 n1 n2
        go_wp2_with fail
        go_ret
        exact HP.out _ _ { x with setup := p, long := q } (by omega) ⟨HXZ.out.hk, HXZ.out.hw, HXZ.out.hh, Nat.le_succ_of_le HXZ.out.hn, (⟨by omega, by omega⟩ : -2199023255552 ≤ p ∧ p ≤ 2199023255552), (⟨by omega, by omega⟩ : -2199023255552 ≤ q ∧ q ≤ 2199023255552)⟩ hV
end Go.Proofs.YtaendemgkabdfaaGreatDoor

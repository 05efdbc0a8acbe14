/-
  Events that are drawn have a property that all drawn ones have: the sort makes no new ones. No walk.
-/
import Derived.Test.YtapgnaimbgjcnaaGreatDoorZEv11
import Derived.Test.YtapgnaimbgjcnaaGreatDoorZEvK
import Derived.Test.YtapgnaimbgjcnaaGreatDoorZEv5W
namespace Go.Proofs.YtapgnaimbgjcnaaGreatDoor
open Go Go.RowKit Go.Sort
section
variable {α : Type} [Inhabited α] {P : α → Prop}
def PA (P : α → Prop) (d : Array α) : Prop := ∀ i : Nat, P d[i]!
theorem PA.swp {d : Array α} (h : PA P d) (a b : Nat) : PA P (swp d a b) := by
 intro i
 unfold Go.Sort.swp
 by_cases hi : i < d.size
 · by_cases hb : i = b
   · subst hb
     rw [getElem!_set_same _ _ _ (by simpa using hi)]
     exact h a
   · rw [getElem!_set_other _ _ _ _ hb]
     by_cases ha : i = a
     · subst ha
       rw [getElem!_set_same _ _ _ hi]
       exact h b
     · rw [getElem!_set_other _ _ _ _ ha]
       exact h i
 · have h2 := h i
   rw [getElem!_neg d i hi] at h2
   rw [getElem!_neg ((d.setIfInBounds a d[b]!).setIfInBounds b d[a]!) i (by simpa using hi)]
   exact h2
theorem PA.swapR : ∀ (n a b : Nat) {d : Array α}, PA P d → PA P (swapR n a b d)
 | 0, _, _, _, h => h
 | n + 1, a, b, _, h => PA.swapR n (a + 1) (b + 1) (h.swp a b)
theorem PA.rotR : ∀ (f i m j : Nat) {d : Array α}, PA P d → PA P (rotR f i m j d)
 | 0, _, _, _, _, h => h
 | f + 1, i, m, j, d, h => by
   unfold Go.Proofs.YtapgnaimbgjcnaaGreatDoor.rotR
   split
   · exact h.swapR _ _ _
   · split
     · exact PA.rotR f _ _ _ (h.swapR _ _ _)
     · exact PA.rotR f _ _ _ (h.swapR _ _ _)
theorem PA.shU : ∀ (n k : Nat) {d : Array α}, PA P d → PA P (shU n k d)
 | 0, _, _, h => h
 | n + 1, k, _, h => PA.shU n (k + 1) (h.swp k (k + 1))
theorem PA.shD : ∀ (n k : Nat) {d : Array α}, PA P d → PA P (shD n k d)
 | 0, _, _, h => h
 | n + 1, k, _, h => PA.shD n (k - 1) (h.swp k (k - 1))
theorem PA.symT {d : Array α} (h : PA P d) (s m e : Nat) : PA P (symT s m e d) := by
 unfold Go.Proofs.YtapgnaimbgjcnaaGreatDoor.symT
 split
 · exact h.rotR _ _ _ _
 · exact h
theorem PA.symR (lt : α → α → Bool) : ∀ (f a m b : Nat) {d : Array α}, PA P d → PA P (symR lt f a m b d)
 | 0, _, _, _, _, h => h
 | f + 1, a, m, b, d, h => by
   unfold Go.Proofs.YtapgnaimbgjcnaaGreatDoor.symR
   split
   · exact h.shU _ _
   · split
     · exact h.shD _ _
     · have h1 := h.symT (symI lt a m b ((a + b) / 2) d) m ((a + b) / 2 + m - symI lt a m b ((a + b) / 2) d)
       simp only
       split
       · refine PA.symR lt f _ _ _ ?_
         split
         · exact PA.symR lt f _ _ _ h1
         · exact h1
       · split
         · exact PA.symR lt f _ _ _ h1
         · exact h1
theorem PA.perm {a b : Nat} {d d' : Array α} (h : PA P d) (hp : PermIn a b d d') : PA P d' := by
 intro i
 obtain ⟨h1, h2, h3⟩ := hp
 by_cases hi : i < a ∨ b ≤ i
 · rw [h2 i hi]
   exact h i
 · by_cases hz : i < d'.size
   · have hm : d'[i]! ∈ (d'.extract a b).toList := by
      rw [getElem!_pos d' i hz]
      have hsz : i - a < (d'.extract a b).size := by rw [Array.size_extract]; omega
      have e : (d'.extract a b)[i - a] = d'[i] := by
       rw [Array.getElem_extract]
       congr 1
       omega
      rw [← e]
      exact Array.getElem_mem_toList hsz
     have hm2 := h3.mem_iff.1 hm
     obtain ⟨j, hj, he⟩ := List.getElem_of_mem hm2
     have hj2 : j < (d.extract a b).size := by rw [← Array.length_toList]; exact hj
     rw [← he, Array.getElem_toList, Array.getElem_extract]
     have hj3 : a + j < d.size := by rw [Array.size_extract] at hj2; omega
     have := h (a + j)
     rw [getElem!_pos d _ hj3] at this
     exact this
   · have h4 := h i
     rw [getElem!_neg d i (by omega)] at h4
     rw [getElem!_neg d' i hz]
     exact h4
end
theorem sev_P {P : Bev → Prop} (h0 : P (default : Bev)) {xs : List Bev} (h : ∀ x ∈ xs, P x) : ∀ x ∈ sev xs, P x := by
 have hd : PA P xs.toArray := fun i => by
  by_cases hi : i < xs.toArray.size
  · rw [getElem!_pos _ i hi]
    exact h _ (by simp)
  · rw [getElem!_neg _ i hi]
    exact h0
 have hs : PA P (stbF (ltOf ordBev) xs.length xs.toArray) := by
  unfold stbF
  split
  · exact hd.perm (insertionSort_holds swo_bev _ _ _ (Nat.zero_le _) (by simp)).1
  · rename_i hn
    have h1 : PA P (insR (ltOf ordBev) xs.toArray 0 20) := hd.perm (insertionSort_holds swo_bev _ _ _ (by omega) (by simp; omega)).1
    have hz : (insR (ltOf ordBev) xs.toArray 0 20).size = xs.length := by rw [insR_size swo_bev _ _ _ (by omega) (by simp; omega)]; simp
    split
    · exact h1.perm (insertionSort_holds swo_bev _ _ _ (by omega) (by omega)).1
    · exact PA.symR _ _ _ _ _ (h1.perm (insertionSort_holds swo_bev _ _ _ (by omega) (by omega)).1)
 intro x hx
 unfold sev at hx
 obtain ⟨i, hi, rfl⟩ := List.getElem_of_mem hx
 have hi2 := hi
 rw [Array.length_toList] at hi2
 have := hs i
 rw [getElem!_pos _ i hi2] at this
 rw [Array.getElem_toList]
 exact this
theorem evnX_P {P : Bev → Prop} (h0 : P (default : Bev)) {L : List Bev} (h : ∀ x ∈ L, P x) : ∀ x ∈ evnX L, P x :=
 fun x hx => sev_P h0 h x (cpE_mem (sev L).length (Nat.le_refl _) x hx)
theorem evnX_Z {L : List Bev} (h : EvZs L) : EvZs (evnX L) := evnX_P (P := EvZ) ⟨by decide, by decide, by decide, by decide⟩ h
theorem EvZs.bevW {L : List Bev} (h : EvZs L) : ∀ x ∈ L, BevW x := fun x hx => ⟨Nat.le_trans (h x hx).i (by decide), Nat.le_trans (h x hx).w (by decide), Nat.le_trans (h x hx).b (by decide), Nat.le_trans (h x hx).c (by decide)⟩
end Go.Proofs.YtapgnaimbgjcnaaGreatDoor
/-
  What the stream's events are: early ones or right ones never, and of known names. No walk.
-/
namespace Go.Proofs.YtapgnaimbgjcnaaGreatDoor
open Go Go.RowKit
def DrwE (x : Bev) : Prop := (x.at_ ≤ 210 ∨ x.at_ = 1099511627776) ∧ (x.who ∈ whsX ∨ x.who = noBev)
theorem drw_0 : DrwE (default : Bev) := ⟨.inl (by decide), .inr rfl⟩
theorem odd50 (zs : ZsT) (p : Nat) : oddX zs p 0 50 ≤ 210 ∨ oddX zs p 0 50 = 1099511627776 := by
 unfold oddX
 split
 · unfold pkX
   generalize (nxX zs (p + 1) _).toNat = k
   match k with
   | 0 => exact .inl (by decide)
   | 1 => exact .inl (by decide)
   | 2 => exact .inl (by decide)
   | 3 => exact .inl (by decide)
   | 4 => exact .inl (by decide)
   | 5 => exact .inr (by decide)
   | k + 6 => exact .inl (by show (0 : Int) ≤ 210; decide)
 · have := nxX_bd zs (p + 1) (n := 50 - 0 + 1) (by decide)
   exact .inl (by omega)
theorem ev0X_drw (zs : ZsT) (p : Nat) {a : Int} (kd : Int) (i : ByteArray) {w : ByteArray} (b : ByteArray) (ha : a ≤ 210) (hw : w ∈ whsX) : DrwE (ev0X zs p a kd i w b).2 := by
 unfold ev0X
 split
 · exact ⟨.inl ha, .inl hw⟩
 · split
   · exact ⟨.inl ha, .inr rfl⟩
   · split
     · exact ⟨.inl ha, .inl hw⟩
     · exact ⟨.inl ha, .inl hw⟩
theorem ev1X_drw (zs : ZsT) (r : Nat) {x : Bev} (h : DrwE x) : DrwE (ev1X zs r x).2 := by
 unfold ev1X
 split
 · split
   · exact ⟨odd50 zs _, h.2⟩
   · split
     · refine ⟨h.1, ?_⟩
       have hm := smX_mem zs (r + 1 + 1 + 1) [⟨#[]⟩, x.who] (by simp)
       rcases List.mem_cons.1 hm with e | e
       · exact .inr e
       · rw [show (smX zs (r + 1 + 1 + 1) [⟨#[]⟩, x.who]) = x.who from List.mem_singleton.1 e]
         exact h.2
     · split
       · exact h
       · exact h
 · exact h
theorem evs_drw (zs : ZsT) (p : Nat) : ∀ k : Nat, k ≤ 39 → (evsX zs p k).2.1 ≤ 10 + 5 * (k : Int) ∧ ∀ x ∈ (evsX zs p k).2.2, DrwE x
 | 0, _ => ⟨by show (10 : Int) ≤ _; omega, by intro x hx; cases hx⟩
 | k + 1, hk => by
   obtain ⟨h1, h2⟩ := evs_drw zs p k (by omega)
   have hd := pkX_bd zs (evsX zs p k).1 atsX 0 5 (by decide) (by decide)
   refine ⟨?_, fun x hx => ?_⟩
   · show (evsX zs p k).2.1 + pkX zs (evsX zs p k).1 atsX ≤ _
     omega
   · have hx : x ∈ (evsX zs p k).2.2 ++ [(evRX zs (evsX zs p k).1 (evsX zs p k).2.1).2] := hx
     rcases List.mem_append.1 hx with hx | hx
     · exact h2 x hx
     · rw [List.mem_singleton.1 hx]
       unfold evRX
       exact ev1X_drw _ _ (ev0X_drw _ _ _ _ _ (by omega) (smX_mem _ _ _ (by decide)))
theorem evn_drw (zs : ZsT) (p m : Nat) (hm : m ≤ 39) : ∀ x ∈ evnX (evsX zs p m).2.2, DrwE x := evnX_P drw_0 (evs_drw zs p m hm).2
def revX (zs : ZsT) (m : Nat) : Nat → Nat → Nat × List Bev
 | 0, p => (p, [])
 | k + 1, p => if bevsF (evnX (evsX zs p m).2.2) = 0 then ((evsX zs p m).1, evnX (evsX zs p m).2.2) else revX zs m k (evsX zs p m).1
theorem revX_yes {zs : ZsT} {m k p r : Nat} {a : Int} {L : List Bev} (h : evsX zs p m = (r, a, L)) (h0 : bevsF (evnX L) = 0) : revX zs m (k + 1) p = (r, evnX L) := by
 rw [revX, h]
 exact if_pos h0
theorem revX_no {zs : ZsT} {m k p r : Nat} {a : Int} {L : List Bev} (h : evsX zs p m = (r, a, L)) (h0 : ¬ bevsF (evnX L) = 0) : revX zs m (k + 1) p = revX zs m k r := by
 rw [revX, h]
 exact if_neg h0
end Go.Proofs.YtapgnaimbgjcnaaGreatDoor
/-
  The stream's RightEvents to the letter.
-/
namespace Go.Proofs.YtapgnaimbgjcnaaGreatDoor
open Go Go.RowKit
attribute [local go_sem ↓] Go.wp_at_zero Go.wp_at_succ
def RevX (zs : ZsT) (b p m : Nat) (w : World) (e : Ending) (w' : World) : Prop :=
 ∃ (A : Option Addr) (c base : Nat) (l : List Bev) (r : Nat), e = .returned (.slice A l.length c) ∧ revX zs m 5 p = (r, l) ∧ bevsF l = 0 ∧ (∀ x ∈ l, DrwE x) ∧ EvZs l ∧ l.length ≤ m ∧ r ≤ p + 100 * m ∧ w.heap.size ≤ base ∧ SpX zs w b r w' [rOwn base 78 8 (.slice A l.length c) l.length (l.flatMap bevC)]
set_option maxRecDepth 100000 in
set_option maxHeartbeats 4000000 in
theorem rightEventsX_calls (b p m : Nat) (zs : ZsT) (w : World) (hs : StrmX w b zs p) (hK : p ≤ 600000) (hm : m ≤ 39) :
 Calls Tryz.prog 38 #[.pointer (some ⟨b, 0, none⟩), .int .i64 m] w (RevX zs b p m w) := by
 have hS0 := SpX.start hs
 clear hs
 go_enter Tryz.func38, Tryz.ntmps38
 go_wp2_with fail
 go_loopw [6] (fun s6 wr => ∃ (k r : Nat), k ≤ 5 ∧ s6 = .int .i64 k ∧ Hid (revX zs m (5 - k) r = revX zs m 5 p) ∧ r ≤ p + 20 * m * k ∧ SpX zs w b r wr []) (fun s6 _ => 5 - (intOf s6).toNat)
 case atStart => exact ⟨0, p, by omega, rfl, Lib.hid rfl, by omega, hS0⟩
 case round =>
  clear hS0
  obtain ⟨k, r, hk, rfl, HR, hrp, hS⟩ := hrel
  by_cases hlt : k < 5
  · have hlt' : (k : Int) < 5 := by omega
    have hr5 : r ≤ 700000 := by
     have : 20 * m * k ≤ 20 * 39 * 5 := Nat.mul_le_mul (by omega) (by omega)
     omega
    have HE := Lib.hid (eventsX_calls b r m zs wr hS.strm hr5 hm)
    have HS := Lib.hid hS
    clear hS
    go_wp2_with fail
    refine HE.out.mono ?_
    rintro e w2 ⟨A, c, L, a, r2, rfl, hev, hLm, hLZ, hr2, hS2⟩
    have hz := evnX_Z hLZ
    have hdr : ∀ x ∈ evnX L, DrwE x := by
     have h := evn_drw zs r m hm
     rw [hev] at h
     exact h
    have hln : (evnX L).length ≤ m := by rw [← hLm]; exact evnX_len L
    have hy := fun h0 => revX_yes (k := 4 - k) hev h0
    have hn := fun h0 => revX_no (k := 4 - k) hev h0
    rw [show 4 - k + 1 = 5 - k by omega, HR.out] at hy hn
    have hS3 := HS.out.merge hS2
    have hr3 : r2 ≤ p + 20 * m * (k + 1) := by rw [Nat.mul_add]; omega
    obtain ⟨l, hl⟩ : ∃ l, evnX L = l := ⟨_, rfl⟩
    rw [hl] at hz hdr hln hy hn hS3 ⊢
    obtain ⟨n, hn0⟩ : ∃ n, l.length = n := ⟨_, rfl⟩
    rw [hn0] at hS3 hln ⊢
    have hbz : w.heap.size ≤ wr.heap.size := HS.out.size
    have hO : w2.ownsRow wr.heap.size 78 8 (.slice A n c) n (l.flatMap bevC) := hS3.head
    have HF := Lib.hid (eventsFault_calls b A n c l w2 ⟨Rd.own hO HS.out.lt, hz.bevW⟩)
    have HS3 := Lib.hid hS3
    have HN := Lib.hid hn0
    have HB := Lib.hid hbz
    have HX := Lib.hid (And.intro hdr hz)
    clear hev hLm hLZ hr2 hS2 hl hn0 hO hS3 HS HE hbz hdr hz
    obtain ⟨F, hF⟩ : ∃ F, bevsF l = F := ⟨_, rfl⟩
    rw [hF] at HF hy hn
    go_wp2_with fail
    refine HF.out.mono ?_
    rintro e w3 ⟨rfl, hb3⟩
    have hS4 := HS3.out.callB hb3
    clear hb3 HF
    by_cases h0 : F = 0
    · subst h0
      have HY := Lib.hid (hy rfl)
      have hr6 : r2 ≤ p + 100 * m := by
       have : 20 * m * (k + 1) ≤ 20 * m * 5 := Nat.mul_le_mul (Nat.le_refl _) (by omega)
       omega
      have HFN : Hid (RevX zs b p m w (.returned (.slice A n c)) w3) := Lib.hid ⟨A, c, wr.heap.size, l, r2, by rw [HN.out], HY.out.symm.symm, hF, HX.out.1, HX.out.2, by rw [HN.out]; exact hln, hr6, HB.out, by rw [HN.out]; exact hS4⟩
      clear hy hn hS4 hF HX hln hrp hr3 hr6
      go_wp2_with fail
      go_ret
      exact HFN.out
    · have hN := hn h0
      have hx : (F == 0) = false := by simpa using h0
      have HNN : Hid (revX zs m (5 - (k + 1)) r2 = revX zs m 5 p) := Lib.hid (by rw [hN, show 5 - (k + 1) = 4 - k by omega])
      have hS5 := hS4.bare
      clear hy hn hN hS4 hF HX HS3 h0
      go_wp2_with fail
      go_roundw
      case rel => exact ⟨k + 1, r2, by omega, by go_num, HNN, hr3, hS5⟩
      case measure => simp [intOf]; omega
  · obtain rfl : k = 5 := by omega
    have HY : Hid (revX zs m 5 p = (r, [])) := Lib.hid (by rw [← HR.out]; rfl)
    have hr6 : r ≤ p + 100 * m := by omega
    have HFN : Hid (RevX zs b p m w (.returned (.slice none 0 0)) wr) := Lib.hid ⟨none, 0, w.heap.size, [], r, rfl, HY.out, by decide +kernel, (by intro x hx; cases hx), (by intro x hx; cases hx), Nat.zero_le _, hr6, Nat.le_refl _, hS.nil w.heap.size _ _⟩
    clear hS hrp hr6
    go_wp2_with fail
    go_ret
    exact HFN.out
end Go.Proofs.YtapgnaimbgjcnaaGreatDoor

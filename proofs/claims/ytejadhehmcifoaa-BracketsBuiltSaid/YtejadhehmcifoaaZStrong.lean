/-
  Strong of the stream by a contract: players of a bracket.
-/
import Derived.Test.YtejadhehmcifoaaZSep
import Derived.Test.YtejadhehmcifoaaZSlotPure
import Derived.Test.YtejadhehmcifoaaZStream
namespace Go.Proofs.Ytejadhehmcifoaa
open Go Go.RowKit

def pStr (r : Int) : ByteArray := ⟨#[112]⟩ ++ Utf8.encode r
theorem pStr_size (r : Int) : (pStr r).size ≤ 1000 := by
  have h := Go.encode_size_le r
  unfold pStr
  rw [ByteArray.size_append]
  have : (⟨#[112]⟩ : ByteArray).size = 1 := rfl
  omega
theorem run_add_p {P : Program} {w : World} (r : Int) : (Op.stringOp .add ⟨#[112]⟩ (Utf8.encode r)).run P w = .ok (.string (pStr r)) w := by
  refine run_string_add_sum _ _ _ ?_
  have h := Go.encode_size_le r
  have : (⟨#[112]⟩ : ByteArray).size = 1 := rfl
  omega
attribute [local go_sem ↓ high] run_add_p
theorem info_strB : (Try.prog.info? 9).map (fun i => (i.zero, i.size, i.bytes)) = some (some (.string ⟨#[]⟩), 1, 16) := by kernel_rfl
theorem one1B {x : Value} (hx : x.oneCell' = true) : ∀ u ∈ [x], u.oneCell' = true := by
  intro u hu
  simp at hu
  subst hu
  exact hx
def StrongS (b K : Nat) (w : World) (e : Ending) (w' : World) : Prop :=
  ∃ (v : Value) (who : List ByteArray), e = .returned v ∧ who.length ≤ 17 ∧ (∀ s ∈ who, s.size ≤ 1000) ∧ Sp w b K w' [rOwn w.heap.size 9 1 v who.length (strsV who)]

set_option maxRecDepth 100000 in
set_option maxHeartbeats 4000000 in
theorem strong_calls (b K : Nat) (w : World) (hs : Strm w b K) (hK : K ≤ 900000) :
    Calls Try.prog 5 #[.pointer (some ⟨b, 0, none⟩)] w (StrongS b (K + 3) w) := by
  have hT0 := Sp.start hs
  go_enter Try.func5, Try.ntmps5
  go_wp2_with fail
  refine (sp_pickL hT0 #[.int .i64 2, .int .i64 3, .int .i64 5, .int .i64 8, .int .i64 9, .int .i64 16, .int .i64 1, .int .i64 0] 3 8 0 16 (by decide) (by decide) rfl rfl (by omega)).mono ?_
  rintro e w1 ⟨_, rfl, ⟨p, rfl, hp0, hp1⟩, hT1⟩
  obtain ⟨n, rfl⟩ : ∃ n : Nat, p = (n : Int) := ⟨p.toNat, by omega⟩
  have hn : n ≤ 16 := by omega
  have hT2 := hT1.nil w.heap.size 9 1
  clear hT0 hs hT1 hp0 hp1
  go_wp2_with fail
  go_loopw [3, 8] (fun v i wr => ∃ (k : Nat) (acc : List ByteArray), k ≤ n ∧ i = .int .i64 k ∧ acc.length = k ∧ (∀ s ∈ acc, s.size ≤ 1000) ∧ Sp w b (K + 1) wr [rOwn w.heap.size 9 1 v k (strsV acc)]) (fun _ i _ => n - (intOf i).toNat)
  case atStart => exact ⟨0, [], Nat.zero_le _, rfl, rfl, (by intro s hs; cases hs), hT2⟩
  case round =>
    clear hT2
    obtain ⟨k, acc, hk, rfl, hac, hsz, hT⟩ := hrel
    by_cases hlt : k < n
    · have hk0 : (0 : Int) ≤ (k : Int) := by omega
      have hk1 : (k : Int) < (n : Int) := by omega
      obtain ⟨i0, hi0, hyy0, hyy1, hyy2⟩ := info_parts info_strB
      have hown : wr.ownsRow w.heap.size 9 1 u3 k (strsV acc) := hT.head
      have hsw := hT.size
      have hps := pStr_size (97 + (k : Int))
      go_wp2_with (first
        | (at_builtin; refine wpList_append_own_at _ rfl _ _ 26 rfl w.heap.size 9 i0 (.string ⟨#[]⟩) 1 16 Try.underlying26 hi0 hyy0 hyy1 hyy2 rfl (by decide) _ _ _ rfl (hown.alloc _) ⟨wr.heap.size, 0, none⟩ 1 1 [.string (pStr (97 + (k : Int)))] rfl rfl (World.news_of_block (heap_alloc_new _ _)) (one1B rfl) (by unfold maxLen; omega) (by omega) (by simp; omega) ?_; intro v' w8 hown' hgrow _ hblk; have hT8 := (hT.alloc (.cells #[.string (pStr (97 + (k : Int)))] 9)).append hown' hgrow hblk; clear hown' hgrow hblk))
      go_roundw
      case rel =>
        refine ⟨k + 1, acc ++ [pStr (97 + (k : Int))], by omega, by go_num, by simp [hac], ?_, ?_⟩
        · intro s hs
          rcases List.mem_append.1 hs with h | h
          · exact hsz s h
          · simp at h
            subst h
            exact hps
        · have he : strsV (acc ++ [pStr (97 + (k : Int))]) = strsV acc ++ [.string (pStr (97 + (k : Int)))] := by simp [strsV]
          rw [he]
          exact hT8
      case measure => simp [intOf]; omega
    · obtain rfl : k = n := by omega
      go_wp2_with fail
      refine (sp_flip hT 12 (by omega) (by omega) (by omega)).mono ?_
      rintro e w2 ⟨_, rfl, ⟨z, rfl⟩, hT2⟩
      clear hT
      cases z
      · have hown : w2.ownsRow w.heap.size 9 1 u3 k (strsV acc) := hT2.head
        have HT := Lib.hid hT2
        go_wp2_with fail
        go_ret
        exact ⟨_, acc, rfl, by omega, hsz, by rw [hac]; exact HT.out.more (by omega)⟩
      · go_wp2_with fail
        refine (sp_someL hT2 #[.string ⟨#[]⟩, .string ⟨#[112, 97]⟩, .string ⟨#[65]⟩] 9 3 (by decide) (by decide) rfl (strLit_ok rfl) (by omega)).mono ?_
        rintro e w3 ⟨_, rfl, ⟨s, rfl, hs1⟩, hT3⟩
        clear hT2
        obtain ⟨i0, hi0, hyy0, hyy1, hyy2⟩ := info_parts info_strB
        have hown : w3.ownsRow w.heap.size 9 1 u3 k (strsV acc) := hT3.head
        have hsw := hT3.size
        go_wp2_with (first
          | (at_builtin; refine wpList_append_own_at _ rfl _ _ 26 rfl w.heap.size 9 i0 (.string ⟨#[]⟩) 1 16 Try.underlying26 hi0 hyy0 hyy1 hyy2 rfl (by decide) _ _ _ rfl (hown.alloc _) ⟨w3.heap.size, 0, none⟩ 1 1 [.string s] rfl rfl (World.news_of_block (heap_alloc_new _ _)) (one1B rfl) (by unfold maxLen; omega) (by omega) (by simp; omega) ?_; intro v' w8 hown' hgrow _ hblk; have hT8 := (hT3.alloc (.cells #[.string s] 9)).append hown' hgrow hblk; clear hown' hgrow hblk))
        have he : strsV (acc ++ [s]) = strsV acc ++ [.string s] := by simp [strsV]
        rw [← he] at hT8
        have HT := Lib.hid hT8
        clear hT8
        go_ret
        exact ⟨_, acc ++ [s], rfl, by simp; omega, (by
          intro t ht
          rcases List.mem_append.1 ht with h | h
          · exact hsz t h
          · simp at h
            subst h
            exact hs1), by rw [List.length_append, hac]; exact HT.out⟩
end Go.Proofs.Ytejadhehmcifoaa

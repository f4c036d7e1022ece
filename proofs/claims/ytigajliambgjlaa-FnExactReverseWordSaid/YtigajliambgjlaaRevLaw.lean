/- The reversing of a word: the program's answer is the reference's. -/
import Derived.Test.YtigajliambgjlaaRev
import Derived.Test.YtigajliambgjlaaPFnExactReverseWordx1
namespace Go.Proofs.Ytigajliambgjlaa.RevLaw
open Go.RowKit Go.Proofs.YtigajliambgjlaaW.PrintWords Go.Proofs.YtigajliambgjlaaW.PrintLast Go.Proofs.Ytigajliambgjlaa.PFnExactReverseWord

theorem wrap_pred {x : Int} (h0 : 0 ≤ x) (h1 : x ≤ 9223372036854775807) : wrap64 (x - 1) = x - 1 := by unfold wrap64; omega

/-- The reference's loop: the bytes from i down, in front of them what is there. -/
theorem spec_loop (s : ByteArray) (hn : s.size ≤ 140737488351232) : ∀ (d : Nat) (k : Nat) (xs : List Int), d ≤ s.size → d < k → xs.length + d ≤ s.size →
    spec_ReverseWord.l0 k s xs ((d : Int) - 1) = some (strOfNums (xs ++ ((s.data.toList.take d).reverse.map fun b => (b.toNat : Int)))) := by
  intro d
  induction d with
  | zero =>
    intro k xs h0 hk hl
    obtain ⟨k, rfl⟩ : ∃ m, k = m + 1 := ⟨k - 1, by omega⟩
    simp only [spec_ReverseWord.l0]
    rw [if_neg (by omega)]
    simp
  | succ d ih =>
    intro k xs h0 hk hl
    obtain ⟨k, rfl⟩ : ∃ m, k = m + 1 := ⟨k - 1, by omega⟩
    simp only [spec_ReverseWord.l0]
    rw [if_pos (by omega), if_pos (by omega), if_pos (by omega), if_pos (by omega), wrap_pred (by omega) (by omega)]
    have e : (((d + 1 : Nat) : Int) - 1) = (d : Int) := by omega
    rw [e, ih k _ (by omega) (by omega) (by simp; omega)]
    congr 2
    have hd : d < s.data.toList.length := by
      rw [Array.length_toList]
      show d < s.size
      omega
    rw [List.take_succ_eq_append_getElem hd, List.reverse_append, List.append_assoc]
    have hb : bt s (d : Int) = ((s.data.toList[d]).toNat : Int) := by
      unfold bt
      rw [dif_pos (show (d : Int).toNat < s.size by omega)]
      rfl
    simp [hb]

theorem strOfNums_bytes (l : List UInt8) : strOfNums (l.map fun b => (b.toNat : Int)) = ⟨l.toArray⟩ := by
  unfold strOfNums
  rw [List.map_map]
  congr 2
  have : ((fun n : Int => UInt8.ofNat n.toNat) ∘ fun b : UInt8 => (b.toNat : Int)) = id := by
    funext b
    simp
  rw [this, List.map_id]

theorem spec_pure (s : ByteArray) (hn : s.size ≤ 140737488351232) : ∃ k, spec_ReverseWord.f k s = some ⟨s.data.reverse⟩ := by
  refine ⟨s.size + 1, ?_⟩
  unfold spec_ReverseWord.f
  rw [wrap_pred (by omega) (by omega), spec_loop s hn s.size _ [] (by omega) (by omega) (by simp), List.nil_append, strOfNums_bytes]
  rw [List.take_of_length_le (show s.data.toList.length ≤ s.size by rw [Array.length_toList]; exact Nat.le_refl _)]
  congr 2
  rw [← Array.toList_reverse]


set_option maxHeartbeats 800000 in
theorem law_any (s : ByteArray) (w : World) (hs : s.size ≤ 140737488351232) :
    Calls Try.prog 3 #[.string s] w fun e w' => e = .returned (.bool true) ∧ Below w.heap.size w w' := by
  obtain ⟨k, hk⟩ := spec_pure s hs
  have hK := Lib.hid hk
  clear hk
  go_enter Try.func3, Try.ntmps3
  by_cases hbig : (1048576 : Int) < s.size
  · go_wp2_with fail
    go_ret
    exact ⟨rfl, Below.refl _ _⟩
  · go_wp2_with fail
    refine (spec_ReverseWord.calls k s _ _ hK.out).mono ?_
    rintro e w1 ⟨rfl, hb1⟩
    have hB1 := Lib.hid hb1
    clear hb1
    go_wp2_with fail
    refine (Rev.reverse_any s _ (by unfold maxLen; omega)).mono ?_
    rintro e w2 ⟨rfl, hb2⟩
    have hB2 := Lib.hid hb2
    clear hb2
    go_wp2
    go_ret
    exact ⟨rfl, hB1.out.trans (hB2.out.mono hB1.out.size)⟩

end Go.Proofs.Ytigajliambgjlaa.RevLaw

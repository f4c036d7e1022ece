/- The reversing of a word: what the program's ReverseWord and slices.Reverse over bytes come to. -/
import Derived.Test.YtigajliambgjlaaProg
import Derived.WalkKit
import Derived.Deep.LoopGhost
import Derived.RegionTactic
import Derived.BigRegion
import Derived.Lib.Walk
import Derived.Sort.WalkB12
import Derived.Lib.SlicesMore
import Derived.Lib.ConvBytes
import Derived.Laws.IdiomStrings
import Derived.WalkLawsBesides
import Derived.Outline
import Derived.Lib.OwnBridge
import Derived.Lib.Hide
import Derived.Below
namespace Go.Proofs.Ytigajliambgjlaa.Rev
open Go.RowKit Go.Lib Go.Sort

def encB (b : UInt8) : Value := .int .u8 (b.toNat : Int)

set_option maxHeartbeats 1600000 in
set_option maxRecDepth 1000000 in
theorem reverse_arr (blk cap : Nat) (d : Array UInt8) (w : World) (hH : Holds encB w blk 0 d) (hsz : d.size ≤ 9223372036854775807) :
    Calls Try.prog 11 #[.slice (some ⟨blk, 0, none⟩) d.size cap] w fun e w' => e = .returned (.tuple #[]) ∧ ∃ n, w' = putRow encB (Sort.ahead w n) blk 0 d.reverse := by
  go_enter Try.func11, Try.ntmps11
  go_wp2
  go_loopg [2, 3] d.size (fun k s2 s3 wr => ∃ (i jn : Nat) (jz : Int) (dk : Array UInt8) (n : Nat), s2 = .int .i64 i ∧ s3 = .int .i64 jz ∧ ((i : Int) < jz → jz = jn ∧ jn < d.size) ∧ (¬ (i : Int) < jz → ¬ i < jn) ∧ jn - i ≤ k ∧
    dk.size = d.size ∧ wr = putRow encB (Sort.ahead w n) blk 0 dk ∧ reverseLoop i jn dk = reverseLoop 0 (d.size - 1) d)
  case atStart => exact ⟨0, d.size - 1, (d.size : Int) - 1, d, 0, rfl, rfl, fun h => ⟨by omega, by omega⟩, fun h => by omega, by omega, rfl, (putRow_self encB w blk 0 d hH).symm, rfl⟩
  case round =>
    obtain ⟨i, jn, jz, dk, n, rfl, rfl, h1, h2, hk, hds, hwr, heq⟩ := hrel
    by_cases hlt : (i : Int) < jz
    · obtain ⟨rfl, hjn⟩ := h1 hlt
      have hij : i < jn := by omega
      have hHk : Holds encB wr blk 0 dk := by rw [hwr]; exact holds_putRow encB _ blk 0 d dk (holds_ahead encB w n blk 0 d hH) hds
      obtain ⟨ci, fi⟩ := hHk i (by omega)
      obtain ⟨cj, fj⟩ := hHk jn (by omega)
      simp only [encB, Nat.zero_add] at ci fi cj fj
      have A : Aside (wr = putRow encB (Sort.ahead w n) blk 0 dk) := hwr
      clear hwr hHk hH h1 h2
      go_wp2_with fail
      go_region
      go_wp2
      go_roundg (jn - 1 - (i + 1))
      case measure => omega
      case rel =>
        rw [reverseLoop, if_pos hij] at heq
        exact ⟨i + 1, jn - 1, (jn : Int) - 1, swp dk i jn, n + 1, by simp, rfl, fun h => ⟨by omega, by omega⟩, fun h => by omega, Nat.le_refl _, by rw [size_swp]; exact hds,
          by
            have hsw := swap_world encB (i := i) (j := jn) (by omega) (by omega) A.out rfl rfl
            simp only [Nat.zero_add] at hsw
            first | exact hsw | (simp only [encB, getElem!_pos, show jn < dk.size by omega] at hsw ⊢; exact hsw), heq⟩
    · have hnot := h2 hlt
      go_wp2
      go_end0
      refine ⟨rfl, n, ?_⟩
      rw [reverseLoop, if_neg hnot] at heq
      rw [← Lib.reverseLoop_reverse, ← heq]


theorem convert_word (w : World) (s : ByteArray) : (convert 9 27 (.string s)).run Try.prog w = .ok (.slice (some ⟨w.heap.size, 0, none⟩) s.size (grownCap w s.size 0 5)) (Lib.bytesWorld w 5 s) :=
  Lib.run_convert_string_bytes w 9 27 5 s Try.underlying9 Try.underlying27 Try.underlying5

theorem below_bytesWorld (w : World) (s : ByteArray) : Below w.heap.size w (Lib.bytesWorld w 5 s) where
  os := by simp [Lib.bytesWorld, World.freeze, World.alloc, World.drew, -World.alloc_eq, -World.drew_eq]
  tape := by simp [Lib.bytesWorld, World.freeze, World.alloc, World.drew, -World.alloc_eq, -World.drew_eq]
  output := by simp [Lib.bytesWorld, World.freeze, World.alloc, World.drew, -World.alloc_eq, -World.drew_eq]
  size := by rw [Lib.bytesWorld_size]; omega
  block := fun k hk => Lib.bytesWorld_at_old w 5 s k hk

theorem holds_bytesWorld (w : World) (s : ByteArray) : Holds encB (Lib.bytesWorld w 5 s) w.heap.size 0 s.data := by
  intro j hj
  have hj' : j < s.size := hj
  refine ⟨?_, ?_⟩
  · rw [Nat.zero_add, Lib.bytesWorld_cell w 5 s j hj']
    have h2 : j < s.data.toList.length := by simpa using hj
    rw [getElem!_pos s.data j hj, List.getD_eq_getElem?_getD, List.getElem?_eq_getElem h2]
    simp [encB]
  · have hf := Lib.bytesWorld_at_new w 5 s
    simp only [World.frozen?, hf, Lib.bytesCells]
    simp
    omega

theorem reverse_calls (blk cap : Nat) (d : Array UInt8) (w : World) (hH : Holds encB w blk 0 d) (hsz : d.size ≤ 9223372036854775807) :
    Calls Try.prog 11 #[.slice (some ⟨blk, 0, none⟩) d.size cap] w fun e w' => e = .returned (.tuple #[]) ∧ Holds encB w' blk 0 d.reverse ∧ ∀ B w0, B ≤ blk → Below B w0 w → Below B w0 w' := by
  refine (reverse_arr blk cap d w hH hsz).mono ?_
  rintro e w' ⟨rfl, n, rfl⟩
  exact ⟨rfl, holds_putRow encB _ blk 0 d _ (holds_ahead encB w n blk 0 d hH) (by simp), fun B w0 hB hb => below_putRow hb hB⟩

theorem back_word (w : World) (blk cap : Nat) (d : Array UInt8) (hH : Holds encB w blk 0 d) : (convert 27 9 (.slice (some ⟨blk, 0, none⟩) d.size cap)).run Try.prog w = .ok (.string ⟨d⟩) w := by
  have h := run_convert_bytes_back (P := Try.prog) w 27 9 5 ⟨blk, 0, none⟩ cap d.toList Try.underlying27 Try.underlying5 Try.underlying9 (fun j hj => by
    have hj' : j < d.size := by simpa using hj
    have := (hH j hj').1
    simp only [Nat.zero_add] at this
    have ha : (⟨blk, 0, none⟩ : Addr).add j = ⟨blk, j, none⟩ := by
      cases j <;> simp [Addr.add]
    rw [ha, this, getElem!_pos d j hj']
    simp [encB])
  simpa using h

set_option maxHeartbeats 800000 in
theorem reverse_any (s : ByteArray) (w : World) (hs : s.size ≤ maxLen) :
    Calls Try.prog 6 #[.string s] w fun e w' => e = .returned (.string ⟨s.data.reverse⟩) ∧ Below w.heap.size w w' := by
  unfold maxLen at hs
  have kc := convert_word
  have hb := below_bytesWorld w s
  have hH := holds_bytesWorld w s
  have hB := Lib.hid hb
  have hHH := Lib.hid hH
  clear hb hH
  go_enter Try.func6, Try.ntmps6
  go_wp2_with fail
  generalize Lib.bytesWorld w 5 s = w1 at *
  refine (reverse_calls w.heap.size _ s.data _ hHH.out (by exact hs)).mono ?_
  rintro e w2 ⟨rfl, h2, h3⟩
  have hb2 := Lib.hid (h3 _ _ (Nat.le_refl _) hB.out)
  clear h3
  have kb := back_word w2 w.heap.size (grownCap w s.size 0 5) _ h2
  rw [Array.size_reverse] at kb
  replace kb : (convert 27 9 (.slice (some ⟨w.heap.size, 0, none⟩) s.size (grownCap w s.size 0 5))).run Try.prog w2 = .ok (.string ⟨s.data.reverse⟩) w2 := kb
  clear h2
  go_wp2
  go_ret
  exact ⟨rfl, hb2.out⟩

end Go.Proofs.Ytigajliambgjlaa.Rev

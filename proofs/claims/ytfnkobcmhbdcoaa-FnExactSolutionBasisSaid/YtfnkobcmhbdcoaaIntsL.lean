/- The laws' helpers over integers' slices: copied, compared, marked. -/
import Derived.Test.YtfnkobcmhbdcoaaTyped
namespace Go.Proofs.Ytfnkobcmhbdcoaa.IntsL
open Go.RowKit Go.Proofs.YtfnkobcmhbdcoaaW.PrintWords Go.Proofs.YtfnkobcmhbdcoaaW.PrintLast Go.Proofs.Ytfnkobcmhbdcoaa.Base Go.Proofs.Ytfnkobcmhbdcoaa.XTypes Go.Proofs.Ytfnkobcmhbdcoaa.XInts Go.Proofs.Ytfnkobcmhbdcoaa.PureInts Go.Proofs.Ytfnkobcmhbdcoaa.Typed
set_option linter.unusedVariables false
set_option linter.unusedSimpArgs false
set_option linter.unnecessarySimpa false

theorem toI_any (v : Value) (l : List Int) (w : World) (h : RdI w v l) (hl : l.length ≤ 1048576) :
    Calls Try.prog 18 #[v] w fun e w' => ∃ v', e = .returned v' ∧ OwI w.heap.size w' v' l ∧ Below w.heap.size w w' := by
  obtain ⟨A, c, rfl, hc, hr⟩ := h
  obtain ⟨k, hk⟩ := (toIntS_ev l (by omega)).rounds
  refine (laws_toIntS.calls k A c l l w hr hc hk).mono ?_
  rintro e w' ⟨v', he, ho, hb⟩
  exact ⟨v', he, OwI.of ho, hb⟩
theorem eqI_any (v v' : Value) (l : List Int) (w : World) (h : RdI w v l) (h' : RdI w v' l) (hl : l.length ≤ 1048576) :
    Calls Try.prog 20 #[v, v'] w fun e w' => e = .returned (.bool true) ∧ Below w.heap.size w w' := by
  obtain ⟨A, c, rfl, hc, hr⟩ := h
  obtain ⟨A', c', rfl, hc', hr'⟩ := h'
  obtain ⟨k, hk⟩ := (eqIntS_ev l (by omega)).rounds
  refine (laws_eqIntS.calls k A c l A' c' l true w hr hc hr' hc' hk).mono ?_
  rintro e w' ⟨rfl, hb⟩
  obtain ⟨n, rfl⟩ := hb
  exact ⟨rfl, pw_below_drewN (Below.refl _ _) _⟩
theorem markI_any (v : Value) (l : List Int) (w0 w : World) (hB : Below w0.heap.size w0 w) (h : OwI w0.heap.size w v l) (hl : l.length ≤ 1048576) :
    Calls Try.prog 24 #[v, .int .i64 1] w fun e w' => e = .returned (.int .i64 (1 + l.length)) ∧ OwI w0.heap.size w' v (upFrom 1 l.length) ∧ Below w0.heap.size w0 w' ∧ Kept w w' (Fp v) := by
  obtain ⟨k, hk⟩ := (markIntS_ev l 1 (by omega) (by omega)).rounds
  refine (laws_markIntS.calls k (Fp v) v l 1 _ _ w0 w hB h hk).mono ?_
  rintro e w' ⟨he, ho, hb, hk⟩
  exact ⟨he, OwI.of ho, hb, hk⟩
theorem markI_at (v : Value) (l : List Int) (w0 w : World) (m : Nat) (k : Int) (hk : k = m) (hm : m ≤ 1048576000) (hB : Below w0.heap.size w0 w) (h : OwI w0.heap.size w v l) (hl : l.length ≤ 1048576) :
    Calls Try.prog 24 #[v, .int .i64 k] w fun e w' => e = .returned (.int .i64 (m + l.length : Nat)) ∧ OwI w0.heap.size w' v (upFrom k l.length) ∧ Below w0.heap.size w0 w' ∧ Kept w w' (Fp v) := by
  subst hk
  obtain ⟨n, hn⟩ := (markIntS_ev l m (by omega) (by omega)).rounds
  refine (laws_markIntS.calls n (Fp v) v l m _ _ w0 w hB h hn).mono ?_
  rintro e w' ⟨he, ho, hb, hk⟩
  exact ⟨by rw [he, Int.natCast_add], OwI.of ho, hb, hk⟩
end Go.Proofs.Ytfnkobcmhbdcoaa.IntsL

/- Proved: Map where its caller has no handle left (a contract for the laws of the grants). -/
import Derived.Test.YtjeobbhaoahdcaaGjF
namespace Go.Proofs.Ytjeobbhaoahdcaa.GjG
open Go.RowKit Go.Maps Go.Proofs.Ytjeobbhaoahdcaa.Base Go.Proofs.Ytjeobbhaoahdcaa.GaA Go.Proofs.Ytjeobbhaoahdcaa.GaB Go.Proofs.Ytjeobbhaoahdcaa.GaC Go.Proofs.Ytjeobbhaoahdcaa.GmA Go.Proofs.Ytjeobbhaoahdcaa.GmB Go.Proofs.Ytjeobbhaoahdcaa.GmC Go.Proofs.Ytjeobbhaoahdcaa.GpA Go.Proofs.Ytjeobbhaoahdcaa.GgA Go.Proofs.Ytjeobbhaoahdcaa.GvA Go.Proofs.Ytjeobbhaoahdcaa.GeA Go.Proofs.Ytjeobbhaoahdcaa.GeB Go.Proofs.Ytjeobbhaoahdcaa.GfA Go.Proofs.Ytjeobbhaoahdcaa.GfB Go.Proofs.Ytjeobbhaoahdcaa.GfC Go.Proofs.Ytjeobbhaoahdcaa.GfD Go.Proofs.Ytjeobbhaoahdcaa.GfH Go.Proofs.Ytjeobbhaoahdcaa.GjA Go.Proofs.Ytjeobbhaoahdcaa.GjB Go.Proofs.Ytjeobbhaoahdcaa.GjC Go.Proofs.Ytjeobbhaoahdcaa.GjE Go.Proofs.Ytjeobbhaoahdcaa.GjF
set_option linter.unusedVariables false
set_option linter.unusedSimpArgs false

section
variable {w w' W W' : World} {gb mm hm mb fb : Nat} {f : Int → Option (Int × Nat)} {c : Nat} {s s' : MS} {pi : Nat → PI} {F : Int × Int → Option Mp} {n : Nat} {vb db r r' : Nat}
set_option maxHeartbeats 8000000 in
set_option maxRecDepth 100000 in
theorem map_full (h : GX W gb mm hm mb fb s f c pi F n) (hV : V2 W vb db mb r) (caller : Int) (hc : 0 ≤ caller ∧ caller < 8) (owner : Int) (k pb : Nat) (hd : f owner = some ((k : Int), pb)) (ref : Nat) (h32 : ref < 32) (wr : Bool)
    (hlen : (mapsL F caller 16).length = 16) :
    Calls Try.prog 22 #[.pointer (some ⟨gb, 0, none⟩), .pointer (some ⟨vb, 0, none⟩), .int .i64 caller, .int .i64 owner, .int .i64 ref, .bool wr] W fun e w' =>
      e = .returned (.tuple #[.int .i64 0, .int .i64 64]) ∧ Below W.heap.size W w' := by
  have hno := GgA.none_calls h.g.g
  have hun := unmade_calls hV
  have hdo := GgA.domain_in caller hc.1 hc.2
  have ho8 : 0 ≤ owner ∧ owner < 8 := (h.g.d owner _ hd).1
  have hjo := joined_any h.g.g owner ⟨by omega, by omega⟩
  rw [hd] at hjo
  simp only [Option.isSome_some] at hjo
  have hsl : slotB (ref : Int) = true := by unfold slotB; simp; omega
  have hso := slot_any ref
  rw [hsl] at hso
  have hma := fun W' (hW : Below W.heap.size W W') => maps_calls (h.below hW) caller ⟨by omega, by omega⟩
  clear h hV hsl hd
  generalize hLL : mapsL F caller 16 = L at hlen
  go_enter Try.func22, Try.ntmps22
  go_wp2_with (first
    | (go_at_call 53; refine hno.mono ?_; rintro z w9 ⟨rfl, hw9⟩; obtain rfl := hw9.symm)
    | (go_at_call 54; refine hun.mono ?_; rintro z w9 ⟨rfl, hw9⟩; obtain rfl := hw9.symm)
    | (go_at_call 55; refine (hdo _).mono ?_; rintro z w9 ⟨rfl, hw9⟩; obtain rfl := hw9.symm)
    | (go_at_call 56; refine hjo.mono ?_; rintro z w1 ⟨rfl, hB1⟩; have hma1 := hma w1 hB1; have E1 := Base.Aside.mk hB1; clear hB1)
    | (go_at_call 57; refine (hso _).mono ?_; rintro z w9 ⟨rfl, hw9⟩; obtain rfl := hw9.symm)
    | (go_at_call 24; refine hma1.mono ?_; rintro z w2 ⟨v, rfl, hr2, hB2⟩; rw [hLL] at hr2; obtain ⟨A, cA, rfl, hM2⟩ := mrow_of hr2; have E2 := Base.Aside.mk (E1.out.trans (hB2.mono E1.out.size)); rw [hlen]; clear hB2 hr2 hM2)
    | go_in)
  refine bodyPost_ret (v := .tuple #[.int .i64 0, .int .i64 64]) (by simp only [results, Try.results22]; go_simp; try rfl) rfl ⟨rfl, E2.out⟩
end
end Go.Proofs.Ytjeobbhaoahdcaa.GjG

/- Words for the laws' walks. -/
import Derived.Test.YtidmkdaegglepaaS8
set_option linter.all false
namespace Go.Proofs.Ytidmkdaegglepaa
open Go.RowKit

theorem sc_len (s : ST) : (sc s).length = 6 := rfl
/-- The region's condition may be made stronger on the way. -/
theorem wpAnyH_mono {P : Program} {ops : Array Oper} {Q : Exit → Act → World → Prop} {md : Region.Mode} {S S' : World → Prop} (hS : ∀ w, S' w → S w) :
    ∀ (fuel : Nat) (listed : Array Bool) (a : Act) (w : World), wpAnyH P md ops Q S' fuel listed a w → wpAnyH P md ops Q S fuel listed a w
  | 0, _, _, _, h => h
  | fuel + 1, _, _, _, h => ⟨h.1, fun i hi => wpOp_mono (fun a' w' h' => ⟨hS w' h'.1, wpAnyH_mono hS fuel _ a' w' h'.2⟩) (h.2 i hi)⟩
theorem pt_new (w : World) (B b : Nat) (hd : DT w B b []) (hB : B ≤ w.heap.size) : PT (w.alloc (.cells #[.slice none 0 0] 35)) B b w.heap.size [] :=
  ⟨hd.quiet (alloc_below w _), ⟨hB, _, Blk.new w 35 _, World.ownsRow_nil _ _ _ _⟩, good_nil⟩
end Go.Proofs.Ytidmkdaegglepaa

/- Part of a proof of a law of this seat: see the last text. -/
import Derived.Test.YtjcmbghmmdakgaaDoorS
open Go Go.Ab
namespace Go.Proofs.YtjcmbghmmdakgaaDoor.Q
set_option maxRecDepth 1000000
set_option linter.unusedVariables false
noncomputable def F0 : FTab := ftab (disp 100000) 20
theorem F0_sound : FSound Tryd.prog gl F0 := ftab_sound (disp_ok 100000 q18_sites) 20
abbrev DRow := List Int × List (Int × Int)
noncomputable def mkEs (l : List (Int × Int)) : Nat → List ME := List.rec (fun _ => []) (fun x _ ih i => ⟨.int .i64 x.1, .int .i64 x.2, i⟩ :: ih (Nat.succ i)) l
noncomputable def rowQ (r : DRow) (n : Nat) : AV × List (Nat × Blk) := (.map (some n), [(2, .map (mkEs r.2 0) r.2.length)])
def RowOK (r : DRow) : Prop := ∀ (cap : Cap) (n : Nat), (q8_A 100000 F0 [.sl ⟨some ⟨1, 0, 0⟩, r.1.length, cap⟩, .bool false] (pushRo [r.1.map (AV.int .i64)] Hg)).bind (fun p => give3 p.2 n p.1) = some (rowQ r n)
end Go.Proofs.YtjcmbghmmdakgaaDoor.Q

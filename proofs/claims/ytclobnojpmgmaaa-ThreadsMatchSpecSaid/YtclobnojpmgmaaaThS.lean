/-
  slices.SortFunc at the answers of one letter.
-/
import Derived.Test.YtclobnojpmgmaaaThR
import Derived.Test.YtclobnojpmgmaaaShelf
namespace Go.Proofs.Ytclobnojpmgmaaa
open Go.RowKit Go.Shelf Go.Lib Go.Sort
set_option linter.unusedVariables false
theorem sortF_ok (l : List Letter) (hd : Distinct l) [Inhabited (Fin l.length)] (A : Option Addr) (c q r cap : Nat) (d : Array (Fin l.length)) (w : World) (h : SlR letterC (fun b => b = r) w (.slice A l.length c) l) (hq : w.cell? ⟨q, 0, none⟩ = some (.slice A l.length c)) (hqr : q ≠ r) (hn : l.length ≤ 4000000)
    (hH : Holds (encI (n := l.length)) w r 0 d) (hr : r < w.heap.size) (hsz : d.size < 4611686018427387904) :
    Calls Try.prog 28 #[.slice (some ⟨r, 0, none⟩) d.size cap, .func (.func 29) #[] #[.pointer (some ⟨q, 0, none⟩)]] w fun e w' =>
      e = .returned (.tuple #[]) ∧ ∃ n os, w' = sortWorld (encI (n := l.length)) w r 0 n (d.toList.mergeSort fun x y => !(ltOf (cfL l)) y x).toArray os := by
  have eg : ∀ args w, (callFunc 29 args).run Try.prog w = .ok (.enter 29 args) w := enters_of Try.func29 (by kernel_rfl) rfl
  exact Try.slices_SortFunc_total (encI (n := l.length)) (fun _ => rfl) (cfL l) (swoL l) 29 #[.pointer (some ⟨q, 0, none⟩)] r 0 cap d w eg (byOrder_lays l A c q r 0 d.size w h hq hqr hn) hH hr hsz (totL hd)
theorem sortF_none (p : Option Addr) (cap : Nat) (fv : Value) (w : World) : Calls Try.prog 28 #[.slice p 0 cap, fv] w fun e w' => e = .returned (.tuple #[]) ∧ w' = w :=
  Try.slices_SortFunc_none (α := Int) p cap fv w
end Go.Proofs.Ytclobnojpmgmaaa

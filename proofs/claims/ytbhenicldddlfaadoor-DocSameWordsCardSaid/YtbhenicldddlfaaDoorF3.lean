/- Texts DZ, laid together. -/
import Derived.Test.YtbhenicldddlfaaDoorF2
import Derived.Test.YtbhenicldddlfaaDoorSg



namespace Go.Proofs.YtbhenicldddlfaaDoor
open Go.RowKit

theorem libSort : LibSort := by
  intro w g cap d hH hg hsz
  have eg : ∀ args w, (callFunc 15 args).run Tryd.prog w = .ok (.enter 15 args) w := enters_c rfl rfl rfl
  have h := AnyQ.slices_SortFunc laysSort 4 Tryd.isAgg34 Tryd.sizeOf34 (encS (w := w) (g := g)) (fun _ => rfl) (fun x v hv => LzE.one _ v hv) (fun x y => lzC (zS x) (zS y)) (swoS w g) 15 #[] g 0 cap d w eg (layS w g d.size) hH hg hsz
  exact h
theorem sortOk : SortOk := fun w base n A c l _ h0 hn hch hown => sort_lz libSort w base n A c l h0 hn hch hown
theorem All_c (ok : Nat → Prop) (v : DcV) (t : Dc) (W : Nat) (w : World) (hT : DcR ok w v t) (ho : t.Ok) (hs : t.size ≤ 400) (h1 : 1 ≤ W) (h2 : W ≤ 200) : Calls Tryd.prog 4 #[dcVal v, .int .i64 (W : Int)] w (AllP W t w) :=
  all_n sortOk ok v t W w hT ho hs h1 h2
end Go.Proofs.YtbhenicldddlfaaDoor


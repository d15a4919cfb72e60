/- The statement FirmAnswers, proved: for every input that can be read the law returns true, and the input reads as it did. Conditions: none. -/
import Derived.Test.YtnnkcegdkhclcaaDo
import Derived.Test.YtnnkcegdkhclcaaLf
namespace Go.Proofs.Ytnnkcegdkhclcaa

theorem firmAnswers_holds : Rows.FirmAnswersSaid := Am.holds_l41_FirmAnswers (fun a0 a1 a2 h0 h1 h2 => P.Answers_eq ⟨h0.1, fun d hd => (h0.2 d hd).2.2.2.1⟩)

end Go.Proofs.Ytnnkcegdkhclcaa

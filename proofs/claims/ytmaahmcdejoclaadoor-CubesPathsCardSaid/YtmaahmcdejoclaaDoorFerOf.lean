import Derived.Test.YtmaahmcdejoclaaDoorFerMa
/- Plain facts: letters of a word in colours, each colour's letters in order (Greene). No program in sight. -/
set_option maxHeartbeats 1000000
namespace Fer

/-- Letters with colours; 0: none. -/
abbrev CW := List (Int × Nat)
end Fer

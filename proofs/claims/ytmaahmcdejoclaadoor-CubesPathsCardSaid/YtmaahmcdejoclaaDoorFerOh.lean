import Derived.Test.YtmaahmcdejoclaaDoorFerOg
/- Plain facts: a word from behind with its letters turned over; letters left out; letters moved up. No program in sight. -/
set_option maxHeartbeats 1000000
namespace Fer

/-! ### From behind, turned over -/

def rc (n : Int) (w : List Int) : List Int := w.reverse.map fun x => n + 1 - x
/-! ### Letters left out -/

/-! ### Letters moved up -/

end Fer

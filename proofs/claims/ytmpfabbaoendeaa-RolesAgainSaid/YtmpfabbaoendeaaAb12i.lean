/- Seat 12: an argument's fields are in range. -/
import Derived.Test.YtmpfabbaoendeaaAb12h
import Derived.Test.YtmpfabbaoendeaaAbFld
namespace Ab12
open Go Ab
theorem pok_of {p : S0} (h : All2 KC.has (kd 0) (Cod.enc 0 p)) : Pok p :=
  ⟨rg_u16 (fld h 0 rfl rfl), rg_u64 (fld h 36 rfl rfl), rg_u32 (fld h 37 rfl rfl), rg_u64 (fld h 38 rfl rfl), rg_u16 (fld h 39 rfl rfl)⟩
theorem tok_of {x : S5} (h : All2 (CK.has kd) ks5 (enc5 x)) : Tok x :=
  ⟨rg_u64 (fldM h 0 rfl rfl), fun p hp => pok_of ((fldMR h 16 rfl rfl).2 p hp)⟩
end Ab12

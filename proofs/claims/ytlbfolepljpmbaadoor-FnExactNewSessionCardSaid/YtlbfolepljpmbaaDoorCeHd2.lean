/-
  The contracts of the library's functions that this seat's functions call.
-/
import Derived.Lib.AtoiErrMem
import Derived.Test.YtlbfolepljpmbaaDoorCeHs
import Derived.Test.YtlbfolepljpmbaaDoorShelf
namespace Go.Proofs.YtlbfolepljpmbaaDoor.CS
set_option linter.all false
open Go Go.Proofs Go.CE
instance tab : Tab := ⟨[], fun _ => True, fun _ _ _ h => h⟩
noncomputable def G.strconv_Itoa : Sig := ⟨⟨[.d (.i .i64)], []⟩, ⟨[.d .s], []⟩, fun x => N.strconv_Itoa x.1.1⟩
theorem S.strconv_Itoa : Sound Tryd.prog 148 G.strconv_Itoa := Sound.itoa ⟨_, _, Tryd.func148, rfl, rfl⟩ Tryd.strconv_Itoa_small
noncomputable def G.strings_Index : Sig := ⟨⟨[.d .s, .d .s], []⟩, ⟨[.d (.i .i64)], []⟩, fun x => N.strings_Index x.1.1 x.1.2.1⟩
theorem S.strings_Index : Sound Tryd.prog 151 G.strings_Index := Sound.index ⟨_, _, Tryd.func151, rfl, rfl⟩ Tryd.strings_Index_one
noncomputable def G.i_stringslite_Index : Sig := ⟨⟨[.d .s, .d .s], []⟩, ⟨[.d (.i .i64)], []⟩, fun x => N.i_stringslite_Index x.1.1 x.1.2.1⟩
theorem S.i_stringslite_Index : Sound Tryd.prog 131 G.i_stringslite_Index := Sound.index2 ⟨_, _, Tryd.func131, rfl, rfl⟩ Tryd.stringslite_Index_one
noncomputable def G.strings_Count : Sig := ⟨⟨[.d .s, .d .s], []⟩, ⟨[.d (.i .i64)], []⟩, fun x => N.strings_Count x.1.1 x.1.2.1⟩
theorem S.strings_Count : Sound Tryd.prog 150 G.strings_Count := Sound.count ⟨_, _, Tryd.func150, rfl, rfl⟩ Tryd.strings_Count_one
noncomputable def G.strconv_Atoi : Sig := ⟨⟨[.d .s], []⟩, ⟨[.d (.i .i64), .d .e], []⟩, fun x => N.strconv_Atoi x.1.1⟩
theorem S.strconv_Atoi : Sound Tryd.prog 132 G.strconv_Atoi := Sound.atoi ⟨_, _, Tryd.func132, rfl, rfl⟩ fun s n h1 h2 w => (Tryd.strconv_Atoi s n h1 h2 w).mono fun e w' ⟨h, t, hw⟩ => ⟨h, hw ▸ Lib.bytesWorld_below w 5 t⟩
end Go.Proofs.YtlbfolepljpmbaaDoor.CS

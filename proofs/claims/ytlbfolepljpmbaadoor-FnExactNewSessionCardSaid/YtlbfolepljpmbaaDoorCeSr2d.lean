/-
  The contracts of this seat's functions: written by program (gen2.py, fin2.py).
-/
import Derived.Test.YtlbfolepljpmbaaDoorCeX
import Derived.Test.YtlbfolepljpmbaaDoorCeNr2d
import Derived.Test.YtlbfolepljpmbaaDoorProg
import Derived.Test.YtlbfolepljpmbaaDoorCeHd2
namespace Go.Proofs.YtlbfolepljpmbaaDoor.CS
set_option linter.all false
open Go Go.Proofs Go.CE
set_option maxRecDepth 100000

theorem mix : Tryd.prog.follows .mixedOrders = true := by kernel_rfl
noncomputable def G.spec_ExampleText : Sig := ⟨⟨[.d (.i .i64)], []⟩, ⟨[.d .s], []⟩, fun x => N.spec_ExampleText x.1.1⟩
theorem S.spec_ExampleText : Sound Tryd.prog 60 G.spec_ExampleText := fnSound1 mix Tryd.func60 rfl rfl (g := (fun _ => none)) (gok_nil _) [] .no (by kernel_rfl)
noncomputable def G.spec_SplitByte : Sig := ⟨⟨[.d .s, .d (.i .u8)], []⟩, ⟨[.o .s 0], [.arr 9 .s]⟩, fun x => N.spec_SplitByte x.1.1 x.1.2.1⟩
theorem S.spec_SplitByte : Sound Tryd.prog 86 G.spec_SplitByte := fnSound1 mix Tryd.func86 rfl rfl (g := (fun _ => none)) (gok_nil _) [] (.seq .no (.seq .no (.seq .no (.seq (.seq .no (.sub (.loop ⟨[0, 1, 5, 6, 7], ⟨[.d .s, .d (.i .u8), .o .s 0, .d (.i .i64), .d (.i .i64)], [.arr 9 .s]⟩⟩ .no))) .no)))) (by kernel_rfl)
noncomputable def G.spec_FormatInt : Sig := ⟨⟨[.d (.i .i64)], []⟩, ⟨[.d .s], []⟩, fun x => N.spec_FormatInt x.1.1⟩
theorem S.spec_FormatInt : Sound Tryd.prog 113 G.spec_FormatInt := fnSound1 mix Tryd.func113 rfl rfl (g := (fun _ => none)) (gok_nil _) [] (.seq .no (.seq .no (.seq .no (.seq .no (.seq (.sub (.loop ⟨[0, 3, 4], ⟨[.d (.i .i64), .d .b, .d .s], []⟩⟩ .no)) .no))))) (by kernel_rfl)
noncomputable def G.spec_l1Read : Sig := ⟨⟨[.d .s, .d (.i .i64)], []⟩, ⟨[.d (.i .i64), .d .b], []⟩, fun x => N.spec_l1Read x.1.1 x.1.2.1⟩
theorem S.spec_l1Read : Sound Tryd.prog 111 G.spec_l1Read := fnSound1 mix Tryd.func111 rfl rfl (g := (gadd 113 G.spec_FormatInt (fun _ => none))) (gok_add S.spec_FormatInt (gok_nil _)) [] (.seq .no (.seq .no (.seq .no (.seq .no (.seq .no (.seq .no (.seq (.seq .no (.sub (.loop ⟨[0, 6, 7, 8, 9], ⟨[.d .s, .d .b, .d .s, .d (.i .i64), .d (.i .i64)], []⟩⟩ .no))) .no))))))) (by kernel_rfl)
noncomputable def G.spec_ParseInt : Sig := ⟨⟨[.d .s], []⟩, ⟨[.d (.i .i64), .d .b], []⟩, fun x => N.spec_ParseInt x.1.1⟩
theorem S.spec_ParseInt : Sound Tryd.prog 87 G.spec_ParseInt := fnSound1 mix Tryd.func87 rfl rfl (g := (gadd 111 G.spec_l1Read (fun _ => none))) (gok_add S.spec_l1Read (gok_nil _)) [] .no (by kernel_rfl)
noncomputable def G.spec_l1In : Sig := ⟨⟨[.d (.i .i64), .d (.i .i64), .d (.i .i64)], []⟩, ⟨[.d .b], []⟩, fun x => N.spec_l1In x.1.1 x.1.2.1 x.1.2.2.1⟩
theorem S.spec_l1In : Sound Tryd.prog 58 G.spec_l1In := fnSound1 mix Tryd.func58 rfl rfl (g := (fun _ => none)) (gok_nil _) [] .no (by kernel_rfl)
noncomputable def G.spec_IsSet : Sig := ⟨⟨[.d (.i .i64), .d (.i .i64)], []⟩, ⟨[.d .b], []⟩, fun x => N.spec_IsSet x.1.1 x.1.2.1⟩
theorem S.spec_IsSet : Sound Tryd.prog 57 G.spec_IsSet := fnSound1 mix Tryd.func57 rfl rfl (g := (gadd 58 G.spec_l1In (fun _ => none))) (gok_add S.spec_l1In (gok_nil _)) [] .no (by kernel_rfl)
noncomputable def G.spec_l2Has : Sig := ⟨⟨[.d (.i .i64), .d (.i .i64)], []⟩, ⟨[.d .b], []⟩, fun x => N.spec_l2Has x.1.1 x.1.2.1⟩
theorem S.spec_l2Has : Sound Tryd.prog 50 G.spec_l2Has := fnSound1 mix Tryd.func50 rfl rfl (g := (fun _ => none)) (gok_nil _) [] .no (by kernel_rfl)
noncomputable def G.spec_HasElement : Sig := ⟨⟨[.d (.i .i64), .d (.i .i64)], []⟩, ⟨[.d .b], []⟩, fun x => N.spec_HasElement x.1.1 x.1.2.1⟩
theorem S.spec_HasElement : Sound Tryd.prog 141 G.spec_HasElement := fnSound1 mix Tryd.func141 rfl rfl (g := (gadd 50 G.spec_l2Has (gadd 58 G.spec_l1In (gadd 57 G.spec_IsSet (fun _ => none))))) (gok_add S.spec_l2Has (gok_add S.spec_l1In (gok_add S.spec_IsSet (gok_nil _)))) [] .no (by kernel_rfl)
noncomputable def G.spec_ElementsOf : Sig := ⟨⟨[.d (.i .i64)], []⟩, ⟨[.o (.i .i64) 0], [.arr 3 (.i .i64)]⟩, fun x => N.spec_ElementsOf x.1.1⟩
theorem S.spec_ElementsOf : Sound Tryd.prog 128 G.spec_ElementsOf := fnSound1 mix Tryd.func128 rfl rfl (g := (gadd 141 G.spec_HasElement (fun _ => none))) (gok_add S.spec_HasElement (gok_nil _)) [] (.seq .no (.seq .no (.seq (.seq .no (.sub (.loop ⟨[0, 3, 4], ⟨[.d (.i .i64), .o (.i .i64) 0, .d (.i .i64)], [.arr 3 (.i .i64)]⟩⟩ .no))) .no))) (by kernel_rfl)
noncomputable def G.spec_SetText : Sig := ⟨⟨[.d (.i .i64)], []⟩, ⟨[.d .s], []⟩, fun x => N.spec_SetText x.1.1⟩
theorem S.spec_SetText : Sound Tryd.prog 112 G.spec_SetText := fnSound1 mix Tryd.func112 rfl rfl (g := (gadd 128 G.spec_ElementsOf (gadd 57 G.spec_IsSet (fun _ => none)))) (gok_add S.spec_ElementsOf (gok_add S.spec_IsSet (gok_nil _))) [] (.seq .no (.seq .no (.seq .no (.seq .no (.seq .no (.seq (.seq .no (.sub (.loop ⟨[3, 4, 5], ⟨[.d .s, .d (.sl (.i .i64)), .d (.i .i64)], []⟩⟩ .no))) .no)))))) (by kernel_rfl)
noncomputable def G.spec_ParseSet : Sig := ⟨⟨[.d .s], []⟩, ⟨[.d (.i .i64), .d .b], []⟩, fun x => N.spec_ParseSet x.1.1⟩
theorem S.spec_ParseSet : Sound Tryd.prog 88 G.spec_ParseSet := fnSound1 mix Tryd.func88 rfl rfl (g := (gadd 112 G.spec_SetText (fun _ => none))) (gok_add S.spec_SetText (gok_nil _)) [] (.seq .no (.seq .no (.seq (.seq .no (.sub (.loop ⟨[0, 4, 5], ⟨[.d .s, .d (.i .i64), .d (.i .i64)], []⟩⟩ .no))) .no))) (by kernel_rfl)
noncomputable def G.spec_IsContext : Sig := ⟨⟨[.d (.pr (.i .i64) (.sl (.i .i64)))], []⟩, ⟨[.d .b], []⟩, fun x => N.spec_IsContext x.1.1⟩
theorem S.spec_IsContext : Sound Tryd.prog 26 G.spec_IsContext := fnSound1 mix Tryd.func26 rfl rfl (g := (gadd 58 G.spec_l1In (gadd 57 G.spec_IsSet (fun _ => none)))) (gok_add S.spec_l1In (gok_add S.spec_IsSet (gok_nil _))) [1] (.seq .no (.seq (.seq .no (.sub (.loop ⟨[1, 3], ⟨[.p (.pr (.i .i64) (.sl (.i .i64))), .d (.i .i64)], []⟩⟩ .no))) .no)) (by kernel_rfl)
noncomputable def G.spec_l2Sets : Sig := ⟨⟨[.d (.sl (.i .i64))], []⟩, ⟨[.d .b], []⟩, fun x => N.spec_l2Sets x.1.1⟩
theorem S.spec_l2Sets : Sound Tryd.prog 129 G.spec_l2Sets := fnSound1 mix Tryd.func129 rfl rfl (g := (gadd 57 G.spec_IsSet (fun _ => none))) (gok_add S.spec_IsSet (gok_nil _)) [] (.seq .no (.seq (.seq .no (.sub (.loop ⟨[0, 3], ⟨[.d (.sl (.i .i64)), .d (.i .i64)], []⟩⟩ .no))) .no)) (by kernel_rfl)
noncomputable def G.spec_Join : Sig := ⟨⟨[.d (.sl .s), .d .s], []⟩, ⟨[.d .s], []⟩, fun x => N.spec_Join x.1.1 x.1.2.1⟩
theorem S.spec_Join : Sound Tryd.prog 130 G.spec_Join := fnSound1 mix Tryd.func130 rfl rfl (g := (fun _ => none)) (gok_nil _) [] (.seq .no (.seq .no (.seq (.seq .no (.sub (.loop ⟨[0, 1, 5, 6], ⟨[.d (.sl .s), .d .s, .o (.i .u8) 0, .d (.i .i64)], [.arr 5 (.i .u8)]⟩⟩ .no))) .no))) (by kernel_rfl)
noncomputable def G.spec_SetsText : Sig := ⟨⟨[.d (.sl (.i .i64))], []⟩, ⟨[.d .s], []⟩, fun x => N.spec_SetsText x.1.1⟩
theorem S.spec_SetsText : Sound Tryd.prog 114 G.spec_SetsText := fnSound1 mix Tryd.func114 rfl rfl (g := (gadd 130 G.spec_Join (gadd 112 G.spec_SetText (gadd 129 G.spec_l2Sets (fun _ => none))))) (gok_add S.spec_Join (gok_add S.spec_SetText (gok_add S.spec_l2Sets (gok_nil _)))) [] (.seq .no (.seq .no (.seq .no (.seq .no (.seq (.seq .no (.sub (.loop ⟨[0, 3, 4], ⟨[.d (.sl (.i .i64)), .o .s 0, .d (.i .i64)], [.arr 9 .s]⟩⟩ .no))) .no))))) (by kernel_rfl)
noncomputable def G.spec_ContextText : Sig := ⟨⟨[.d (.pr (.i .i64) (.sl (.i .i64)))], []⟩, ⟨[.d .s], []⟩, fun x => N.spec_ContextText x.1.1⟩
theorem S.spec_ContextText : Sound Tryd.prog 89 G.spec_ContextText := fnSound1 mix Tryd.func89 rfl rfl (g := (gadd 114 G.spec_SetsText (gadd 113 G.spec_FormatInt (gadd 26 G.spec_IsContext (fun _ => none))))) (gok_add S.spec_SetsText (gok_add S.spec_FormatInt (gok_add S.spec_IsContext (gok_nil _)))) [1] .no (by kernel_rfl)
noncomputable def G.spec_ParseContext : Sig := ⟨⟨[.d .s], []⟩, ⟨[.g 2, .d (.i .i64), .o (.i .i64) 0, .d .b], [.arr 3 (.i .i64)]⟩, fun x => N.spec_ParseContext x.1.1⟩
theorem S.spec_ParseContext : Sound Tryd.prog 59 G.spec_ParseContext := fnSound1 mix Tryd.func59 rfl rfl (g := (gadd 89 G.spec_ContextText (gadd 88 G.spec_ParseSet (gadd 87 G.spec_ParseInt (gadd 86 G.spec_SplitByte (fun _ => none)))))) (gok_add S.spec_ContextText (gok_add S.spec_ParseSet (gok_add S.spec_ParseInt (gok_add S.spec_SplitByte (gok_nil _))))) [] (.seq .no (.seq .no (.seq .no (.seq .no (.seq .no (.seq .no (.seq (.seq .no (.sub (.loop ⟨[0, 2, 4, 6, 7, 8, 9], ⟨[.d .s, .r 0, .d (.sl .s), .d .b, .r 2, .d (.sl .s), .d (.i .i64)], [.cells [.d (.i .i64), .o (.i .i64) 1], .arr 3 (.i .i64), .cells [.d (.i .i64), .o (.i .i64) 3], .arr 3 (.i .i64)]⟩⟩ .no))) .no))))))) (by kernel_rfl)
noncomputable def G.spec_l3Copy : Sig := ⟨⟨[.d (.pr (.i .i64) (.sl (.i .i64)))], []⟩, ⟨[.g 2, .d (.i .i64), .o (.i .i64) 0], [.arr 3 (.i .i64)]⟩, fun x => N.spec_l3Copy x.1.1⟩
theorem S.spec_l3Copy : Sound Tryd.prog 61 G.spec_l3Copy := fnSound1 mix Tryd.func61 rfl rfl (g := (fun _ => none)) (gok_nil _) [1] .no (by kernel_rfl)
noncomputable def G.spec_NewSession : Sig := ⟨⟨[], []⟩, ⟨[.g 4, .d (.i .i64), .o (.i .i64) 0, .d (.i .i64), .o (.i .i64) 1], [.arr 3 (.i .i64), .arr 3 (.i .i64)]⟩, fun x => N.spec_NewSession⟩
theorem S.spec_NewSession : Sound Tryd.prog 27 G.spec_NewSession := fnSound1 mix Tryd.func27 rfl rfl (g := (gadd 61 G.spec_l3Copy (gadd 59 G.spec_ParseContext (gadd 60 G.spec_ExampleText (fun _ => none))))) (gok_add S.spec_l3Copy (gok_add S.spec_ParseContext (gok_add S.spec_ExampleText (gok_nil _)))) [] .no (by kernel_rfl)
noncomputable def G.impl_within : Sig := ⟨⟨[.d (.i .i64), .d (.i .i64), .d (.i .i64)], []⟩, ⟨[.d .b], []⟩, fun x => N.impl_within x.1.1 x.1.2.1 x.1.2.2.1⟩
theorem S.impl_within : Sound Tryd.prog 83 G.impl_within := fnSound1 mix Tryd.func83 rfl rfl (g := (fun _ => none)) (gok_nil _) [] .no (by kernel_rfl)
noncomputable def G.impl_ExampleText : Sig := ⟨⟨[.d (.i .i64)], []⟩, ⟨[.d .s], []⟩, fun x => N.impl_ExampleText x.1.1⟩
theorem S.impl_ExampleText : Sound Tryd.prog 63 G.impl_ExampleText := fnSound1 mix Tryd.func63 rfl rfl (g := (gadd 83 G.impl_within (fun _ => none))) (gok_add S.impl_within (gok_nil _)) [] .no (by kernel_rfl)
noncomputable def G.i_stringslite_Cut : Sig := ⟨⟨[.d .s, .d .s], []⟩, ⟨[.d .s, .d .s, .d .b], []⟩, fun x => N.i_stringslite_Cut x.1.1 x.1.2.1⟩
theorem S.i_stringslite_Cut : Sound Tryd.prog 115 G.i_stringslite_Cut := fnSound1 mix Tryd.func115 rfl rfl (g := (gadd 131 G.i_stringslite_Index (fun _ => none))) (gok_add S.i_stringslite_Index (gok_nil _)) [] .no (by kernel_rfl)
noncomputable def G.strings_Cut : Sig := ⟨⟨[.d .s, .d .s], []⟩, ⟨[.d .s, .d .s, .d .b], []⟩, fun x => N.strings_Cut x.1.1 x.1.2.1⟩
theorem S.strings_Cut : Sound Tryd.prog 90 G.strings_Cut := fnSound1 mix Tryd.func90 rfl rfl (g := (gadd 115 G.i_stringslite_Cut (fun _ => none))) (gok_add S.i_stringslite_Cut (gok_nil _)) [] .no (by kernel_rfl)
noncomputable def G.impl_FormatInt : Sig := ⟨⟨[.d (.i .i64)], []⟩, ⟨[.d .s], []⟩, fun x => N.impl_FormatInt x.1.1⟩
theorem S.impl_FormatInt : Sound Tryd.prog 133 G.impl_FormatInt := fnSound1 mix Tryd.func133 rfl rfl (g := (gadd 148 G.strconv_Itoa (fun _ => none))) (gok_add S.strconv_Itoa (gok_nil _)) [] .no (by kernel_rfl)
noncomputable def G.impl_readInt : Sig := ⟨⟨[.d .s, .d (.i .i64), .d (.i .i64)], []⟩, ⟨[.d (.i .i64), .d .b], []⟩, fun x => N.impl_readInt x.1.1 x.1.2.1 x.1.2.2.1⟩
theorem S.impl_readInt : Sound Tryd.prog 116 G.impl_readInt := fnSound1 mix Tryd.func116 rfl rfl (g := (gadd 83 G.impl_within (gadd 133 G.impl_FormatInt (gadd 132 G.strconv_Atoi (fun _ => none))))) (gok_add S.impl_within (gok_add S.impl_FormatInt (gok_add S.strconv_Atoi (gok_nil _)))) [] .no (by kernel_rfl)
noncomputable def G.impl_ParseNumber : Sig := ⟨⟨[.d .s], []⟩, ⟨[.d (.i .i64), .d .b], []⟩, fun x => N.impl_ParseNumber x.1.1⟩
theorem S.impl_ParseNumber : Sound Tryd.prog 91 G.impl_ParseNumber := fnSound1 mix Tryd.func91 rfl rfl (g := (gadd 116 G.impl_readInt (fun _ => none))) (gok_add S.impl_readInt (gok_nil _)) [] .no (by kernel_rfl)
noncomputable def G.strings_genSplit : Sig := ⟨⟨[.d .s, .d .s, .d (.i .i64), .d (.i .i64)], []⟩, ⟨[.o .s 0], [.arr 9 .s]⟩, fun x => N.strings_genSplit x.1.1 x.1.2.1 x.1.2.2.1 x.1.2.2.2.1⟩
theorem S.strings_genSplit : Sound Tryd.prog 134 G.strings_genSplit := fnSound1 mix Tryd.func134 rfl rfl (g := (gadd 151 G.strings_Index (gadd 150 G.strings_Count (fun _ => none)))) (gok_add S.strings_Index (gok_add S.strings_Count (gok_nil _))) [] (.seq .no (.seq .no (.seq .no (.seq .no (.seq .no (.seq .no (.seq .no (.seq .no (.seq (.sub (.loop ⟨[0, 1, 2, 3, 9, 10], ⟨[.d .s, .d .s, .d (.i .i64), .d (.i .i64), .o .s 0, .d (.i .i64)], [.arr 9 .s]⟩⟩ .no)) .no))))))))) (by kernel_rfl)
noncomputable def G.strings_Split : Sig := ⟨⟨[.d .s, .d .s], []⟩, ⟨[.o .s 0], [.arr 9 .s]⟩, fun x => N.strings_Split x.1.1 x.1.2.1⟩
theorem S.strings_Split : Sound Tryd.prog 117 G.strings_Split := fnSound1 mix Tryd.func117 rfl rfl (g := (gadd 134 G.strings_genSplit (fun _ => none))) (gok_add S.strings_genSplit (gok_nil _)) [] .no (by kernel_rfl)
noncomputable def G.impl_IsSet : Sig := ⟨⟨[.d (.i .i64), .d (.i .i64)], []⟩, ⟨[.d .b], []⟩, fun x => N.impl_IsSet x.1.1 x.1.2.1⟩
theorem S.impl_IsSet : Sound Tryd.prog 100 G.impl_IsSet := fnSound1 mix Tryd.func100 rfl rfl (g := (gadd 83 G.impl_within (fun _ => none))) (gok_add S.impl_within (gok_nil _)) [] .no (by kernel_rfl)
noncomputable def G.impl_isAnySet : Sig := ⟨⟨[.d (.i .i64)], []⟩, ⟨[.d .b], []⟩, fun x => N.impl_isAnySet x.1.1⟩
theorem S.impl_isAnySet : Sound Tryd.prog 81 G.impl_isAnySet := fnSound1 mix Tryd.func81 rfl rfl (g := (gadd 100 G.impl_IsSet (fun _ => none))) (gok_add S.impl_IsSet (gok_nil _)) [] .no (by kernel_rfl)
noncomputable def G.impl_HasElement : Sig := ⟨⟨[.d (.i .i64), .d (.i .i64)], []⟩, ⟨[.d .b], []⟩, fun x => N.impl_HasElement x.1.1 x.1.2.1⟩
theorem S.impl_HasElement : Sound Tryd.prog 49 G.impl_HasElement := fnSound1 mix Tryd.func49 rfl rfl (g := (gadd 83 G.impl_within (gadd 81 G.impl_isAnySet (fun _ => none)))) (gok_add S.impl_within (gok_add S.impl_isAnySet (gok_nil _))) [] .no (by kernel_rfl)
noncomputable def G.impl_ElementsOf : Sig := ⟨⟨[.d (.i .i64)], []⟩, ⟨[.o (.i .i64) 0], [.arr 3 (.i .i64)]⟩, fun x => N.impl_ElementsOf x.1.1⟩
theorem S.impl_ElementsOf : Sound Tryd.prog 52 G.impl_ElementsOf := fnSound1 mix Tryd.func52 rfl rfl (g := (gadd 49 G.impl_HasElement (fun _ => none))) (gok_add S.impl_HasElement (gok_nil _)) [] (.seq .no (.seq .no (.seq (.seq .no (.sub (.loop ⟨[0, 3, 6], ⟨[.d (.i .i64), .o (.i .i64) 0, .d (.i .i64)], [.arr 3 (.i .i64)]⟩⟩ .no))) .no))) (by kernel_rfl)
noncomputable def G.impl_SetText : Sig := ⟨⟨[.d (.i .i64)], []⟩, ⟨[.d .s], []⟩, fun x => N.impl_SetText x.1.1⟩
theorem S.impl_SetText : Sound Tryd.prog 135 G.impl_SetText := fnSound1 mix Tryd.func135 rfl rfl (g := (gadd 52 G.impl_ElementsOf (gadd 81 G.impl_isAnySet (fun _ => none)))) (gok_add S.impl_ElementsOf (gok_add S.impl_isAnySet (gok_nil _))) [] (.seq .no (.seq .no (.seq .no (.seq (.seq .no (.sub (.loop ⟨[3, 14, 15, 16], ⟨[.d .s, .d (.sl (.i .i64)), .d (.i .i64), .d (.i .i64)], []⟩⟩ .no))) .no)))) (by kernel_rfl)
noncomputable def G.impl_ParseSet : Sig := ⟨⟨[.d .s], []⟩, ⟨[.d (.i .i64), .d .b], []⟩, fun x => N.impl_ParseSet x.1.1⟩
theorem S.impl_ParseSet : Sound Tryd.prog 118 G.impl_ParseSet := fnSound1 mix Tryd.func118 rfl rfl (g := (gadd 135 G.impl_SetText (fun _ => none))) (gok_add S.impl_SetText (gok_nil _)) [] (.seq .no (.seq (.seq .no (.sub (.loop ⟨[0, 5], ⟨[.d .s, .d (.i .i64)], []⟩⟩ .no))) .no)) (by kernel_rfl)
noncomputable def G.impl_parseSets : Sig := ⟨⟨[.d .s], []⟩, ⟨[.o (.i .i64) 0, .d .b], [.arr 3 (.i .i64)]⟩, fun x => N.impl_parseSets x.1.1⟩
theorem S.impl_parseSets : Sound Tryd.prog 92 G.impl_parseSets := fnSound1 mix Tryd.func92 rfl rfl (g := (gadd 118 G.impl_ParseSet (gadd 117 G.strings_Split (fun _ => none)))) (gok_add S.impl_ParseSet (gok_add S.strings_Split (gok_nil _))) [] (.seq .no (.seq .no (.seq .no (.seq (.seq .no (.sub (.loop ⟨[4, 13, 14, 15], ⟨[.o (.i .i64) 0, .d (.sl .s), .d (.i .i64), .d (.i .i64)], [.arr 3 (.i .i64)]⟩⟩ .no))) .no)))) (by kernel_rfl)
noncomputable def G.impl_IsContext_c1 : Sig := ⟨⟨[.d (.i .i64), .p (.pr (.i .i64) (.sl (.i .i64)))], []⟩, ⟨[.d .b], []⟩, fun x => N.impl_IsContext_c1 x.1.1 x.1.2.1⟩
theorem S.impl_IsContext_c1 : Sound Tryd.prog 99 G.impl_IsContext_c1 := fnSound1 mix Tryd.func99 rfl rfl (g := (gadd 100 G.impl_IsSet (fun _ => none))) (gok_add S.impl_IsSet (gok_nil _)) [] .no (by kernel_rfl)
noncomputable def G.slices_IndexFunc_Sint_int : Sig := ⟨⟨[.d (.sl (.i .i64)), .d (.f1 (.i .i64) .b)], []⟩, ⟨[.d (.i .i64)], []⟩, fun x => N.slices_IndexFunc_Sint_int x.1.1 x.1.2.1⟩
theorem S.slices_IndexFunc_Sint_int : Sound Tryd.prog 119 G.slices_IndexFunc_Sint_int := fnSound1 mix Tryd.func119 rfl rfl (g := (fun _ => none)) (gok_nil _) [] (.seq .no (.seq (.seq .no (.sub (.loop ⟨[0, 1, 7, 8], ⟨[.d (.sl (.i .i64)), .d (.f1 (.i .i64) .b), .d (.i .i64), .d (.i .i64)], []⟩⟩ .no))) .no)) (by kernel_rfl)
noncomputable def G.slices_ContainsFunc_Sint_int : Sig := ⟨⟨[.d (.sl (.i .i64)), .d (.f1 (.i .i64) .b)], []⟩, ⟨[.d .b], []⟩, fun x => N.slices_ContainsFunc_Sint_int x.1.1 x.1.2.1⟩
theorem S.slices_ContainsFunc_Sint_int : Sound Tryd.prog 98 G.slices_ContainsFunc_Sint_int := fnSound1 mix Tryd.func98 rfl rfl (g := (gadd 119 G.slices_IndexFunc_Sint_int (fun _ => none))) (gok_add S.slices_IndexFunc_Sint_int (gok_nil _)) [] .no (by kernel_rfl)
noncomputable def G.impl_IsContext : Sig := ⟨⟨[.d (.pr (.i .i64) (.sl (.i .i64)))], []⟩, ⟨[.d .b], []⟩, fun x => N.impl_IsContext x.1.1⟩
theorem S.impl_IsContext : Sound Tryd.prog 68 G.impl_IsContext := fnSound1 mix Tryd.func68 rfl rfl (g := (gadd 98 G.slices_ContainsFunc_Sint_int (gadd 99 G.impl_IsContext_c1 (gadd 83 G.impl_within (fun _ => none))))) (gok_add S.slices_ContainsFunc_Sint_int (gok_add S.impl_IsContext_c1 (gok_add S.impl_within (gok_nil _)))) [1] .no (by kernel_rfl)
noncomputable def G.impl_ParseContext : Sig := ⟨⟨[.d .s], []⟩, ⟨[.g 2, .d (.i .i64), .o (.i .i64) 0, .d .b], [.arr 3 (.i .i64)]⟩, fun x => N.impl_ParseContext x.1.1⟩
theorem S.impl_ParseContext : Sound Tryd.prog 62 G.impl_ParseContext := fnSound1 mix Tryd.func62 rfl rfl (g := (gadd 68 G.impl_IsContext (gadd 92 G.impl_parseSets (gadd 91 G.impl_ParseNumber (gadd 90 G.strings_Cut (fun _ => none)))))) (gok_add S.impl_IsContext (gok_add S.impl_parseSets (gok_add S.impl_ParseNumber (gok_add S.strings_Cut (gok_nil _))))) [] .no (by kernel_rfl)
noncomputable def G.slices_Clone_Sint_int : Sig := ⟨⟨[.d (.sl (.i .i64))], []⟩, ⟨[.o (.i .i64) 0], [.arr 3 (.i .i64)]⟩, fun x => N.slices_Clone_Sint_int x.1.1⟩
theorem S.slices_Clone_Sint_int : Sound Tryd.prog 93 G.slices_Clone_Sint_int := fnSound1 mix Tryd.func93 rfl rfl (g := (fun _ => none)) (gok_nil _) [] .no (by kernel_rfl)
noncomputable def G.impl_Context_own : Sig := ⟨⟨[.d (.pr (.i .i64) (.sl (.i .i64)))], []⟩, ⟨[.g 2, .d (.i .i64), .o (.i .i64) 0], [.arr 3 (.i .i64)]⟩, fun x => N.impl_Context_own x.1.1⟩
theorem S.impl_Context_own : Sound Tryd.prog 64 G.impl_Context_own := fnSound1 mix Tryd.func64 rfl rfl (g := (gadd 93 G.slices_Clone_Sint_int (fun _ => none))) (gok_add S.slices_Clone_Sint_int (gok_nil _)) [1] .no (by kernel_rfl)
noncomputable def G.impl_NewSession : Sig := ⟨⟨[], []⟩, ⟨[.g 4, .d (.i .i64), .o (.i .i64) 0, .d (.i .i64), .o (.i .i64) 1], [.arr 3 (.i .i64), .arr 3 (.i .i64)]⟩, fun x => N.impl_NewSession⟩
theorem S.impl_NewSession : Sound Tryd.prog 28 G.impl_NewSession := fnSound1 mix Tryd.func28 rfl rfl (g := (gadd 64 G.impl_Context_own (gadd 62 G.impl_ParseContext (gadd 63 G.impl_ExampleText (fun _ => none))))) (gok_add S.impl_Context_own (gok_add S.impl_ParseContext (gok_add S.impl_ExampleText (gok_nil _)))) [] .no (by kernel_rfl)
noncomputable def G.laws_eqIntS : Sig := ⟨⟨[.d (.sl (.i .i64)), .d (.sl (.i .i64))], []⟩, ⟨[.d .b], []⟩, fun x => N.laws_eqIntS x.1.1 x.1.2.1⟩
theorem S.laws_eqIntS : Sound Tryd.prog 37 G.laws_eqIntS := fnSound1 mix Tryd.func37 rfl rfl (g := (fun _ => none)) (gok_nil _) [] (.seq .no (.seq .no (.seq (.seq .no (.sub (.loop ⟨[0, 1, 5], ⟨[.d (.sl (.i .i64)), .d (.sl (.i .i64)), .d (.i .i64)], []⟩⟩ .no))) .no))) (by kernel_rfl)
noncomputable def G.laws_eqContext : Sig := ⟨⟨[.d (.pr (.i .i64) (.sl (.i .i64))), .d (.pr (.i .i64) (.sl (.i .i64)))], []⟩, ⟨[.d .b], []⟩, fun x => N.laws_eqContext x.1.1 x.1.2.1⟩
theorem S.laws_eqContext : Sound Tryd.prog 10 G.laws_eqContext := fnSound1 mix Tryd.func10 rfl rfl (g := (gadd 37 G.laws_eqIntS (fun _ => none))) (gok_add S.laws_eqIntS (gok_nil _)) [3, 2] .no (by kernel_rfl)
noncomputable def G.laws_eqSession : Sig := ⟨⟨[.d (.pr (.pr (.i .i64) (.sl (.i .i64))) (.pr (.i .i64) (.sl (.i .i64)))), .d (.pr (.pr (.i .i64) (.sl (.i .i64))) (.pr (.i .i64) (.sl (.i .i64))))], []⟩, ⟨[.d .b], []⟩, fun x => N.laws_eqSession x.1.1 x.1.2.1⟩
theorem S.laws_eqSession : Sound Tryd.prog 29 G.laws_eqSession := fnSound1 mix Tryd.func29 rfl rfl (g := (gadd 10 G.laws_eqContext (fun _ => none))) (gok_add S.laws_eqContext (gok_nil _)) [3, 2] .no (by kernel_rfl)
noncomputable def G.laws_markIntS : Sig := ⟨⟨[.o (.i .i64) 0, .d (.i .i64)], [.arr 3 (.i .i64)]⟩, ⟨[.d (.i .i64)], [.arr 3 (.i .i64)]⟩, fun x => N.laws_markIntS x.1.1 x.2.1⟩
theorem S.laws_markIntS : Sound Tryd.prog 94 G.laws_markIntS := fnSound1 mix Tryd.func94 rfl rfl (g := (fun _ => none)) (gok_nil _) [] (.seq .no (.seq (.seq .no (.sub (.loop ⟨[0, 1, 5], ⟨[.o (.i .i64) 0, .d (.i .i64), .d (.i .i64)], [.arr 3 (.i .i64)]⟩⟩ .no))) .no)) (by kernel_rfl)
noncomputable def G.laws_markContext : Sig := ⟨⟨[.g 2, .d (.i .i64), .o (.i .i64) 0, .d (.i .i64)], [.arr 3 (.i .i64)]⟩, ⟨[.d (.i .i64)], [.arr 3 (.i .i64)]⟩, fun x => N.laws_markContext x.1.1 x.1.2.1 x.2.1⟩
theorem S.laws_markContext : Sound Tryd.prog 65 G.laws_markContext := fnSound1 mix Tryd.func65 rfl rfl (g := (gadd 94 G.laws_markIntS (fun _ => none))) (gok_add S.laws_markIntS (gok_nil _)) [] .no (by kernel_rfl)
noncomputable def G.laws_markSession : Sig := ⟨⟨[.g 4, .d (.i .i64), .o (.i .i64) 0, .d (.i .i64), .o (.i .i64) 1, .d (.i .i64)], [.arr 3 (.i .i64), .arr 3 (.i .i64)]⟩, ⟨[.d (.i .i64)], [.arr 3 (.i .i64), .arr 3 (.i .i64)]⟩, fun x => N.laws_markSession x.1.1 x.1.2.1 x.1.2.2.1 x.2.1 x.2.2.1⟩
theorem S.laws_markSession : Sound Tryd.prog 30 G.laws_markSession := fnSound1 mix Tryd.func30 rfl rfl (g := (gadd 65 G.laws_markContext (fun _ => none))) (gok_add S.laws_markContext (gok_nil _)) [] .no (by kernel_rfl)
noncomputable def G.laws_heldIntS : Sig := ⟨⟨[.d (.sl (.i .i64)), .d (.i .i64)], []⟩, ⟨[.d (.i .i64)], []⟩, fun x => N.laws_heldIntS x.1.1 x.1.2.1⟩
theorem S.laws_heldIntS : Sound Tryd.prog 95 G.laws_heldIntS := fnSound1 mix Tryd.func95 rfl rfl (g := (fun _ => none)) (gok_nil _) [] (.seq .no (.seq (.seq .no (.sub (.loop ⟨[0, 1, 5], ⟨[.d (.sl (.i .i64)), .d (.i .i64), .d (.i .i64)], []⟩⟩ .no))) .no)) (by kernel_rfl)
noncomputable def G.laws_heldContext : Sig := ⟨⟨[.d (.pr (.i .i64) (.sl (.i .i64))), .d (.i .i64)], []⟩, ⟨[.d (.i .i64)], []⟩, fun x => N.laws_heldContext x.1.1 x.1.2.1⟩
theorem S.laws_heldContext : Sound Tryd.prog 66 G.laws_heldContext := fnSound1 mix Tryd.func66 rfl rfl (g := (gadd 95 G.laws_heldIntS (fun _ => none))) (gok_add S.laws_heldIntS (gok_nil _)) [2] .no (by kernel_rfl)
noncomputable def G.laws_heldSession : Sig := ⟨⟨[.d (.pr (.pr (.i .i64) (.sl (.i .i64))) (.pr (.i .i64) (.sl (.i .i64)))), .d (.i .i64)], []⟩, ⟨[.d (.i .i64)], []⟩, fun x => N.laws_heldSession x.1.1 x.1.2.1⟩
theorem S.laws_heldSession : Sound Tryd.prog 31 G.laws_heldSession := fnSound1 mix Tryd.func31 rfl rfl (g := (gadd 66 G.laws_heldContext (fun _ => none))) (gok_add S.laws_heldContext (gok_nil _)) [2] .no (by kernel_rfl)
noncomputable def G.laws_FnExactNewSession : Sig := ⟨⟨[], []⟩, ⟨[.d .b], []⟩, fun x => N.laws_FnExactNewSession⟩
theorem S.laws_FnExactNewSession : Sound Tryd.prog 5 G.laws_FnExactNewSession := fnSound1 mix Tryd.func5 rfl rfl (g := (gadd 31 G.laws_heldSession (gadd 30 G.laws_markSession (gadd 29 G.laws_eqSession (gadd 28 G.impl_NewSession (gadd 27 G.spec_NewSession (fun _ => none))))))) (gok_add S.laws_heldSession (gok_add S.laws_markSession (gok_add S.laws_eqSession (gok_add S.impl_NewSession (gok_add S.spec_NewSession (gok_nil _)))))) [] .no (by kernel_rfl)
end Go.Proofs.YtlbfolepljpmbaaDoor.CS

/- Functions as plain Lean functions, by program. -/
import Derived.Test.YtokjbfjkmboehaaGreatAbsUxP
set_option maxRecDepth 100000
set_option linter.unusedVariables false
set_option linter.unusedSimpArgs false
namespace Go.Abs
noncomputable def rf_girderlaw15_awake : RFn := ⟨apOf 6 0 0, mkU 6, (.seq (.reg [⟨.no,.mv (.c (.bool false)),some P6_0⟩])
 (.seq (.reg [⟨.no,.build [(.int .i64 (.ofNat 0)),(.int .i64 (.ofNat 0)),(.int .i64 (.ofNat 0)),(.bool false)] [(0,1,(.c (.int .i64 (.ofNat 1))))],some P6_9⟩,
 ⟨.no,.build [(.int .i64 (.ofNat 0)),(.int .i64 (.ofNat 0)),(.int .i64 (.ofNat 0)),(.bool false)] [(0,1,(.c (.int .i64 (.ofNat 3))))],some P6_10⟩,
 ⟨.no,.buildSl 2 [(.int .i64 (.ofNat 0)),(.int .i64 (.ofNat 0)),(.int .i64 (.ofNat 0)),(.bool false)] [(0,4,(.t P6_9)),(4,4,(.t P6_10))],some P6_11⟩,
 ⟨.no,.call (.c (.fn f_girderlaw15_laid [] [])) [(.t P6_11),(.c (.bool false))],some P6_12⟩,
 ⟨.no,.mv (.t P6_12),some P6_8⟩,
 ⟨.no,.extr (.t P6_8) 0,some P6_13⟩,
 ⟨.no,.extr (.t P6_8) 1,some P6_14⟩,
 ⟨.no,.extr (.t P6_8) 2,some P6_15⟩,
 ⟨.no,.extr (.t P6_8) 3,some P6_16⟩,
 ⟨.no,.alloc [(.str []),(.int .i64 (.ofNat 0)),(.int .u32 (.ofNat 0)),(.sl 0 [] .nil),(.bool false)],some P6_2⟩,
 ⟨.no,.mv (.t P6_13),some P6_1⟩,
 ⟨.no,.store 5 (.t P6_2) (.t P6_14),none⟩,
 ⟨.no,.mv (.t P6_15),some P6_3⟩,
 ⟨.no,.mv (.t P6_16),some P6_4⟩])
 (.seq (.seq (.reg [⟨.no,.mv (.t P6_4),some P6_17⟩,
 ⟨.no,.un .not (.t P6_17),some P6_18⟩])
 (.cond (.t P6_18) (.seq (.reg [⟨.no,.mv (.c (.bool false)),some P6_0⟩])
 .ret)
 .skip))
 (.seq (.draw [] 12 [⟨⟨.no,.mv (.t P6_1),some P6_20⟩,.val,0,0⟩,
 ⟨⟨.no,.call (.c (.fn f_txn_Manager_Pool [] [])) [(.t P6_20)],some P6_21⟩,.eff,0,1⟩,
 ⟨⟨.no,.load true 5 (.t P6_2),some P6_22⟩,.read,0,1⟩,
 ⟨⟨.no,.call (.c (.fn f_index_Range [] [])) [(.t P6_21),(.c (.int .i64 (.ofNat 7))),(.t P6_22),(.c (.str [107,98])),(.c (.str [107,99]))],some P6_23⟩,.eff,1,2⟩,
 ⟨⟨.no,.mv (.t P6_23),some P6_19⟩,.val,2,2⟩,
 ⟨⟨.no,.extr (.t P6_19) 0,some P6_24⟩,.val,2,2⟩,
 ⟨⟨.no,.extr (.t P6_19) 1,some P6_25⟩,.val,2,2⟩,
 ⟨⟨.no,.extr (.t P6_19) 2,some P6_26⟩,.val,2,2⟩,
 ⟨⟨.no,.mv (.t P6_24),some P6_5⟩,.val,2,2⟩,
 ⟨⟨.no,.mv (.t P6_25),some P6_6⟩,.val,2,2⟩,
 ⟨⟨.no,.mv (.t P6_26),some P6_7⟩,.val,2,2⟩])
 (.seq (.reg [⟨.no,.mv (.t P6_7),some P6_27⟩,
 ⟨.no,.eq .int (.t P6_27) (.c (.int .i64 (.ofNat 0))),some P6_28⟩,
 ⟨.no,.mv (.t P6_28),some P6_29⟩,
 ⟨(.on P6_29 true),.mv (.t P6_5),some P6_30⟩,
 ⟨(.on P6_29 true),.len .sl (.t P6_30),some P6_31⟩,
 ⟨(.on P6_29 true),.eq .int (.t P6_31) (.c (.int .i64 (.ofNat 1))),some P6_32⟩,
 ⟨.no,.pick (.t P6_29) (.t P6_32) (.c (.bool false)),some P6_33⟩,
 ⟨.no,.mv (.t P6_33),some P6_34⟩,
 ⟨(.on P6_34 true),.mv (.t P6_6),some P6_35⟩,
 ⟨(.on P6_34 true),.len .sl (.t P6_35),some P6_36⟩,
 ⟨(.on P6_34 true),.eq .int (.t P6_36) (.c (.int .i64 (.ofNat 2))),some P6_37⟩,
 ⟨.no,.pick (.t P6_34) (.t P6_37) (.c (.bool false)),some P6_38⟩,
 ⟨.no,.mv (.t P6_38),some P6_0⟩])
 .ret))))), [.t P6_0], 0, false, false⟩
noncomputable def rf_girderlaw17_awake : RFn := ⟨apOf 6 0 0, mkU 6, (.seq (.reg [⟨.no,.mv (.c (.bool false)),some P6_0⟩])
 (.seq (.reg [⟨.no,.call (.c (.fn f_girderlaw17_begun [] [])) [(.c (.int .i64 (.ofNat 64)))],some P6_10⟩,
 ⟨.no,.mv (.t P6_10),some P6_9⟩,
 ⟨.no,.extr (.t P6_9) 0,some P6_11⟩,
 ⟨.no,.extr (.t P6_9) 1,some P6_12⟩,
 ⟨.no,.mv (.t P6_11),some P6_1⟩,
 ⟨.no,.mv (.t P6_12),some P6_2⟩])
 (.seq (.seq (.reg [⟨.no,.mv (.t P6_2),some P6_13⟩,
 ⟨.no,.un .not (.t P6_13),some P6_14⟩])
 (.cond (.t P6_14) (.seq (.reg [⟨.no,.mv (.c (.bool false)),some P6_0⟩])
 .ret)
 .skip))
 (.seq (.reg [⟨.no,.mv (.t P6_1),some P6_16⟩,
 ⟨.no,.call (.c (.fn f_txn_Manager_Begin [] [])) [(.t P6_16)],some P6_17⟩,
 ⟨.no,.mv (.t P6_17),some P6_15⟩,
 ⟨.no,.extr (.t P6_15) 0,some P6_18⟩,
 ⟨.no,.extr (.t P6_15) 1,some P6_19⟩,
 ⟨.no,.mv (.t P6_18),some P6_3⟩,
 ⟨.no,.mv (.t P6_19),some P6_4⟩])
 (.seq (.reg [⟨.no,.mv (.t P6_1),some P6_21⟩,
 ⟨.no,.mv (.t P6_3),some P6_22⟩,
 ⟨.no,.call (.c (.fn f_catalog_Create [] [])) [(.t P6_21),(.t P6_22),(.c (.str [97])),(.c (.int .i64 (.ofNat 2)))],some P6_23⟩,
 ⟨.no,.mv (.t P6_23),some P6_20⟩,
 ⟨.no,.extr (.t P6_20) 0,some P6_24⟩,
 ⟨.no,.extr (.t P6_20) 1,some P6_25⟩,
 ⟨.no,.alloc [(.str []),(.int .i64 (.ofNat 0)),(.int .u32 (.ofNat 0)),(.int .i64 (.ofNat 0)),(.sl 0 [] .nil)],some P6_5⟩,
 ⟨.no,.store 5 (.t P6_5) (.t P6_24),none⟩,
 ⟨.no,.mv (.t P6_25),some P6_6⟩])
 (.seq (.reg [⟨.no,.mv (.t P6_1),some P6_27⟩,
 ⟨.no,.call (.c (.fn f_catalog_Find [] [])) [(.t P6_27),(.c (.str [97]))],some P6_28⟩,
 ⟨.no,.mv (.t P6_28),some P6_26⟩,
 ⟨.no,.extr (.t P6_26) 0,some P6_29⟩,
 ⟨.no,.extr (.t P6_26) 1,some P6_30⟩,
 ⟨.no,.alloc [(.str []),(.int .i64 (.ofNat 0)),(.int .u32 (.ofNat 0)),(.int .i64 (.ofNat 0)),(.sl 0 [] .nil)],some P6_7⟩,
 ⟨.no,.store 5 (.t P6_7) (.t P6_29),none⟩,
 ⟨.no,.mv (.t P6_30),some P6_8⟩])
 (.seq (.reg [⟨.no,.mv (.t P6_6),some P6_31⟩,
 ⟨.no,.eq .int (.t P6_31) (.c (.int .i64 (.ofNat 0))),some P6_32⟩,
 ⟨.no,.mv (.t P6_32),some P6_33⟩,
 ⟨(.on P6_33 true),.mv (.t P6_8),some P6_34⟩,
 ⟨(.on P6_33 true),.eq .int (.t P6_34) (.c (.int .i64 (.ofNat 0))),some P6_35⟩,
 ⟨.no,.pick (.t P6_33) (.t P6_35) (.c (.bool false)),some P6_36⟩,
 ⟨.no,.mv (.t P6_36),some P6_37⟩,
 ⟨(.on P6_37 true),.faddr 1 1 (.t P6_5),some P6_38⟩,
 ⟨(.on P6_37 true),.load false 1 (.t P6_38),some P6_39⟩,
 ⟨(.on P6_37 true),.eq .int (.t P6_39) (.c (.int .i64 (.ofNat 1))),some P6_40⟩,
 ⟨.no,.pick (.t P6_37) (.t P6_40) (.c (.bool false)),some P6_41⟩,
 ⟨.no,.mv (.t P6_41),some P6_42⟩,
 ⟨(.on P6_42 true),.faddr 1 1 (.t P6_7),some P6_43⟩,
 ⟨(.on P6_42 true),.load false 1 (.t P6_43),some P6_44⟩,
 ⟨(.on P6_42 true),.eq .int (.t P6_44) (.c (.int .i64 (.ofNat 1))),some P6_45⟩,
 ⟨.no,.pick (.t P6_42) (.t P6_45) (.c (.bool false)),some P6_46⟩,
 ⟨.no,.mv (.t P6_46),some P6_47⟩,
 ⟨(.on P6_47 true),.faddr 2 1 (.t P6_7),some P6_48⟩,
 ⟨(.on P6_47 true),.load false 1 (.t P6_48),some P6_49⟩,
 ⟨(.on P6_47 true),.faddr 2 1 (.t P6_5),some P6_50⟩,
 ⟨(.on P6_47 true),.load false 1 (.t P6_50),some P6_51⟩,
 ⟨(.on P6_47 true),.eq .int (.t P6_49) (.t P6_51),some P6_52⟩,
 ⟨.no,.pick (.t P6_47) (.t P6_52) (.c (.bool false)),some P6_53⟩,
 ⟨.no,.mv (.t P6_53),some P6_54⟩,
 ⟨(.on P6_54 true),.faddr 3 1 (.t P6_7),some P6_55⟩,
 ⟨(.on P6_54 true),.load false 1 (.t P6_55),some P6_56⟩,
 ⟨(.on P6_54 true),.eq .int (.t P6_56) (.c (.int .i64 (.ofNat 2))),some P6_57⟩,
 ⟨.no,.pick (.t P6_54) (.t P6_57) (.c (.bool false)),some P6_58⟩,
 ⟨.no,.mv (.t P6_58),some P6_0⟩])
 .ret))))))), [.t P6_0], 0, false, false⟩
noncomputable def rf_girderlaw15_laid : RFn := ⟨apOf 8 0 2, mkU 8, (.seq (.reg [⟨.no,.mv (.c .nilp),some P8_4⟩,
 ⟨.no,.alloc [(.str []),(.int .i64 (.ofNat 0)),(.int .u32 (.ofNat 0)),(.sl 0 [] .nil),(.bool false)],some P8_5⟩,
 ⟨.no,.mv (.c (.sl 0 [] .nil)),some P8_6⟩,
 ⟨.no,.mv (.c (.bool false)),some P8_7⟩])
 (.seq (.reg [⟨.no,.call (.c (.fn f_disk_New [] [])) [(.c (.int .i64 (.ofNat 300)))],some P8_25⟩,
 ⟨.no,.mv (.t P8_25),some P8_24⟩,
 ⟨.no,.extr (.t P8_24) 0,some P8_26⟩,
 ⟨.no,.extr (.t P8_24) 1,some P8_27⟩,
 ⟨.no,.mv (.t P8_26),some P8_8⟩,
 ⟨.no,.mv (.t P8_27),some P8_9⟩])
 (.seq (.reg [⟨.no,.mv (.t P8_8),some P8_29⟩,
 ⟨.no,.call (.c (.fn f_wal_Open [] [])) [(.t P8_29)],some P8_30⟩,
 ⟨.no,.mv (.t P8_30),some P8_28⟩,
 ⟨.no,.extr (.t P8_28) 0,some P8_31⟩,
 ⟨.no,.extr (.t P8_28) 1,some P8_32⟩,
 ⟨.no,.extr (.t P8_28) 2,some P8_33⟩,
 ⟨.no,.mv (.t P8_31),some P8_10⟩,
 ⟨.no,.mv (.t P8_32),some P8_11⟩,
 ⟨.no,.mv (.t P8_33),some P8_12⟩])
 (.seq (.reg [⟨.no,.mv (.t P8_8),some P8_35⟩,
 ⟨.no,.mv (.t P8_10),some P8_36⟩,
 ⟨.no,.call (.c (.fn f_pool_New [] [])) [(.t P8_35),(.t P8_36),(.c (.int .i64 (.ofNat 16)))],some P8_37⟩,
 ⟨.no,.mv (.t P8_37),some P8_34⟩,
 ⟨.no,.extr (.t P8_34) 0,some P8_38⟩,
 ⟨.no,.extr (.t P8_34) 1,some P8_39⟩,
 ⟨.no,.mv (.t P8_38),some P8_13⟩,
 ⟨.no,.mv (.t P8_39),some P8_14⟩])
 (.seq (.reg [⟨.no,.mv (.t P8_13),some P8_40⟩,
 ⟨.no,.call (.c (.fn f_txn_New [] [])) [(.t P8_40)],some P8_41⟩,
 ⟨.no,.mv (.t P8_41),some P8_15⟩])
 (.seq (.seq (.reg [⟨.no,.mv (.t P8_14),some P8_42⟩,
 ⟨.no,.ne .int (.t P8_42) (.c (.int .i64 (.ofNat 0))),some P8_43⟩,
 ⟨.no,.mv (.t P8_43),some P8_44⟩,
 ⟨(.on P8_44 false),.mv (.t P8_15),some P8_45⟩,
 ⟨(.on P8_44 false),.eq .ptr (.t P8_45) (.c .nilp),some P8_46⟩,
 ⟨.no,.pick (.t P8_44) (.c (.bool true)) (.t P8_46),some P8_47⟩,
 ⟨.no,.mv (.t P8_47),some P8_48⟩,
 ⟨(.on P8_48 false),.mv (.t P8_15),some P8_49⟩,
 ⟨(.on P8_48 false),.call (.c (.fn f_girderlaw15_begun [] [])) [(.t P8_49)],some P8_50⟩,
 ⟨(.on P8_48 false),.ne .int (.t P8_50) (.c (.int .i64 (.ofNat 0))),some P8_51⟩,
 ⟨.no,.pick (.t P8_48) (.c (.bool true)) (.t P8_51),some P8_52⟩])
 (.cond (.t P8_52) (.seq (.reg [⟨.no,.build [(.str []),(.int .i64 (.ofNat 0)),(.int .u32 (.ofNat 0)),(.sl 0 [] .nil),(.bool false)] [],some P8_53⟩,
 ⟨.no,.mv (.c .nilp),some P8_4⟩,
 ⟨.no,.store 5 (.t P8_5) (.t P8_53),none⟩,
 ⟨.no,.mv (.c (.sl 0 [] .nil)),some P8_6⟩,
 ⟨.no,.mv (.c (.bool false)),some P8_7⟩])
 .ret)
 .skip))
 (.seq (.reg [⟨.no,.mv (.t P8_15),some P8_55⟩,
 ⟨.no,.call (.c (.fn f_txn_Manager_Begin [] [])) [(.t P8_55)],some P8_56⟩,
 ⟨.no,.mv (.t P8_56),some P8_54⟩,
 ⟨.no,.extr (.t P8_54) 0,some P8_57⟩,
 ⟨.no,.extr (.t P8_54) 1,some P8_58⟩,
 ⟨.no,.mv (.t P8_57),some P8_16⟩,
 ⟨.no,.mv (.t P8_58),some P8_17⟩])
 (.seq (.reg [⟨.no,.mv (.t P8_15),some P8_60⟩,
 ⟨.no,.mv (.t P8_16),some P8_61⟩,
 ⟨.no,.call (.c (.fn f_smo_Create [] [])) [(.t P8_60),(.t P8_61)],some P8_62⟩,
 ⟨.no,.mv (.t P8_62),some P8_59⟩,
 ⟨.no,.extr (.t P8_59) 0,some P8_63⟩,
 ⟨.no,.extr (.t P8_59) 1,some P8_64⟩,
 ⟨.no,.mv (.t P8_63),some P8_18⟩,
 ⟨.no,.mv (.t P8_64),some P8_19⟩])
 (.seq (.reg [⟨.no,.buildSl 0 [(.str []),(.int .u32 (.ofNat 0)),(.int .i64 (.ofNat 0)),(.bool false)] [],some P8_65⟩,
 ⟨.no,.mv (.t P8_65),some P8_20⟩])
 (.seq (.seq (.reg [⟨.no,.mv (.c (.int .i64 (.ofNat 0))),some P8_21⟩])
 (.block 0 (.loop (.seq (.seq (.reg [⟨.no,.mv (.t P8_21),some P8_66⟩,
 ⟨.no,.mv (.t P8_0),some P8_67⟩,
 ⟨.no,.len .sl (.t P8_67),some P8_68⟩,
 ⟨.no,.bin .lss (.t P8_66) (.t P8_68),some P8_69⟩,
 ⟨.no,.mv (.t P8_69),some P8_70⟩,
 ⟨(.on P8_70 true),.mv (.t P8_21),some P8_71⟩,
 ⟨(.on P8_70 true),.bin .lss (.t P8_71) (.c (.int .i64 (.ofNat 40))),some P8_72⟩,
 ⟨.no,.pick (.t P8_70) (.t P8_72) (.c (.bool false)),some P8_73⟩])
 (.cond (.t P8_73) .skip
 (.exit 0)))
 (.seq (.block 1 (.seq (.draw [[(.str []),(.int .u32 (.ofNat 0)),(.int .i64 (.ofNat 0))]] 24 [⟨⟨.no,.mv (.t P8_0),some P8_76⟩,.val,0,0⟩,
 ⟨⟨.no,.mv (.t P8_21),some P8_77⟩,.val,0,0⟩,
 ⟨⟨.no,.ixSl 4 (.t P8_76) (.t P8_77),some P8_78⟩,.val,0,0⟩,
 ⟨⟨.no,.faddr 0 1 (.t P8_78),some P8_79⟩,.val,0,0⟩,
 ⟨⟨.no,.load false 1 (.t P8_79),some P8_80⟩,.read,0,0⟩,
 ⟨⟨.no,.call (.c (.fn f_girderlaw15_keyOf [] [])) [(.t P8_80)],some P8_81⟩,.eff,0,1⟩,
 ⟨⟨.no,.mv (.t P8_0),some P8_82⟩,.val,0,1⟩,
 ⟨⟨.no,.mv (.t P8_21),some P8_83⟩,.val,0,1⟩,
 ⟨⟨.no,.ixSl 4 (.t P8_82) (.t P8_83),some P8_84⟩,.val,0,1⟩,
 ⟨⟨.no,.faddr 1 1 (.t P8_84),some P8_85⟩,.val,0,1⟩,
 ⟨⟨.no,.load false 1 (.t P8_85),some P8_86⟩,.read,0,1⟩,
 ⟨⟨.no,.bin .and (.t P8_86) (.c (.int .i64 (.ofNat 3))),some P8_87⟩,.val,0,1⟩,
 ⟨⟨.no,.conv (.toInt .u32) (.t P8_87),some P8_88⟩,.read,0,1⟩,
 ⟨⟨.no,.mv (.t P8_0),some P8_89⟩,.val,0,1⟩,
 ⟨⟨.no,.mv (.t P8_21),some P8_90⟩,.val,0,1⟩,
 ⟨⟨.no,.ixSl 4 (.t P8_89) (.t P8_90),some P8_91⟩,.val,0,1⟩,
 ⟨⟨.no,.faddr 2 1 (.t P8_91),some P8_92⟩,.val,0,1⟩,
 ⟨⟨.no,.load false 1 (.t P8_92),some P8_93⟩,.read,0,1⟩,
 ⟨⟨.no,.bin .and (.t P8_93) (.c (.int .i64 (.ofNat 3))),some P8_94⟩,.val,0,1⟩,
 ⟨⟨.no,.build [(.int .u32 (.ofNat 0)),(.int .i64 (.ofNat 0))] [(0,1,(.t P8_88)),(1,1,(.t P8_94))],some P8_95⟩,.val,0,1⟩,
 ⟨⟨.no,.build [(.str []),(.int .u32 (.ofNat 0)),(.int .i64 (.ofNat 0))] [(0,1,(.t P8_81)),(1,2,(.t P8_95))],some P8_96⟩,.val,1,1⟩,
 ⟨⟨.no,.alloc [(.str []),(.int .u32 (.ofNat 0)),(.int .i64 (.ofNat 0))],some P8_22⟩,.alloc,0,1⟩,
 ⟨⟨.no,.store 3 (.t P8_22) (.t P8_96),none⟩,.eff,1,2⟩])
 (.seq (.reg [⟨.no,.mv (.c (.int .i64 (.ofNat 0))),some P8_23⟩])
 (.seq (.block 2 (.loop (.seq (.seq (.draw [] 14 [⟨⟨.no,.mv (.t P8_23),some P8_97⟩,.val,0,0⟩,
 ⟨⟨.no,.mv (.t P8_20),some P8_98⟩,.val,0,0⟩,
 ⟨⟨.no,.len .sl (.t P8_98),some P8_99⟩,.read,0,0⟩,
 ⟨⟨.no,.bin .lss (.t P8_97) (.t P8_99),some P8_100⟩,.val,0,0⟩,
 ⟨⟨.no,.mv (.t P8_100),some P8_101⟩,.val,0,0⟩,
 ⟨⟨(.on P8_101 true),.mv (.t P8_20),some P8_102⟩,.val,0,0⟩,
 ⟨⟨(.on P8_101 true),.mv (.t P8_23),some P8_103⟩,.val,0,0⟩,
 ⟨⟨(.on P8_101 true),.ixSl 4 (.t P8_102) (.t P8_103),some P8_104⟩,.val,0,0⟩,
 ⟨⟨(.on P8_101 true),.faddr 0 3 (.t P8_104),some P8_105⟩,.val,0,0⟩,
 ⟨⟨(.on P8_101 true),.load true 3 (.t P8_105),some P8_106⟩,.read,0,0⟩,
 ⟨⟨(.on P8_101 true),.load true 3 (.t P8_22),some P8_107⟩,.read,0,0⟩,
 ⟨⟨(.on P8_101 true),.call (.c (.fn f_girderlaw15_before [] [])) [(.t P8_106),(.t P8_107)],some P8_108⟩,.eff,0,1⟩,
 ⟨⟨.no,.pick (.t P8_101) (.t P8_108) (.c (.bool false)),some P8_109⟩,.val,1,1⟩])
 (.cond (.t P8_109) .skip
 (.exit 2)))
 (.block 3 (.reg [⟨.no,.mv (.t P8_23),some P8_110⟩,
 ⟨.no,.bin .add (.t P8_110) (.c (.int .i64 (.ofNat 1))),some P8_111⟩,
 ⟨.no,.mv (.t P8_111),some P8_23⟩])))))
 (.seq (.seq (.draw [] 14 [⟨⟨.no,.mv (.t P8_23),some P8_112⟩,.val,0,0⟩,
 ⟨⟨.no,.mv (.t P8_20),some P8_113⟩,.val,0,0⟩,
 ⟨⟨.no,.len .sl (.t P8_113),some P8_114⟩,.read,0,0⟩,
 ⟨⟨.no,.bin .lss (.t P8_112) (.t P8_114),some P8_115⟩,.val,0,0⟩,
 ⟨⟨.no,.mv (.t P8_115),some P8_116⟩,.val,0,0⟩,
 ⟨⟨(.on P8_116 true),.mv (.t P8_20),some P8_117⟩,.val,0,0⟩,
 ⟨⟨(.on P8_116 true),.mv (.t P8_23),some P8_118⟩,.val,0,0⟩,
 ⟨⟨(.on P8_116 true),.ixSl 4 (.t P8_117) (.t P8_118),some P8_119⟩,.val,0,0⟩,
 ⟨⟨(.on P8_116 true),.faddr 0 3 (.t P8_119),some P8_120⟩,.val,0,0⟩,
 ⟨⟨(.on P8_116 true),.load true 3 (.t P8_120),some P8_121⟩,.read,0,0⟩,
 ⟨⟨(.on P8_116 true),.load true 3 (.t P8_22),some P8_122⟩,.read,0,0⟩,
 ⟨⟨(.on P8_116 true),.eq (.agg [.str,.int,.int]) (.t P8_121) (.t P8_122),some P8_123⟩,.val,0,0⟩,
 ⟨⟨.no,.pick (.t P8_116) (.t P8_123) (.c (.bool false)),some P8_124⟩,.val,0,0⟩])
 (.cond (.t P8_124) (.exit 1)
 .skip))
 (.seq (.seq (.reg [⟨.no,.mv (.t P8_15),some P8_125⟩,
 ⟨.no,.mv (.t P8_16),some P8_126⟩,
 ⟨.no,.mv (.t P8_18),some P8_127⟩,
 ⟨.no,.load true 3 (.t P8_22),some P8_128⟩,
 ⟨.no,.call (.c (.fn f_smo_Insert [] [])) [(.t P8_125),(.t P8_126),(.t P8_127),(.t P8_128),(.c .nilf)],some P8_129⟩,
 ⟨.no,.ne .int (.t P8_129) (.c (.int .i64 (.ofNat 0))),some P8_130⟩,
 ⟨.no,.mv (.t P8_130),some P8_131⟩,
 ⟨(.on P8_131 false),.mv (.t P8_0),some P8_132⟩,
 ⟨(.on P8_131 false),.mv (.t P8_21),some P8_133⟩,
 ⟨(.on P8_131 false),.ixSl 4 (.t P8_132) (.t P8_133),some P8_134⟩,
 ⟨(.on P8_131 false),.faddr 3 1 (.t P8_134),some P8_135⟩,
 ⟨(.on P8_131 false),.load false 1 (.t P8_135),some P8_136⟩,
 ⟨(.on P8_131 false),.mv (.t P8_136),some P8_137⟩,
 ⟨(.on P8_137 true),.mv (.t P8_15),some P8_138⟩,
 ⟨(.on P8_137 true),.mv (.t P8_16),some P8_139⟩,
 ⟨(.on P8_137 true),.mv (.t P8_18),some P8_140⟩,
 ⟨(.on P8_137 true),.load true 3 (.t P8_22),some P8_141⟩,
 ⟨(.on P8_137 true),.call (.c (.fn f_smo_Delete [] [])) [(.t P8_138),(.t P8_139),(.t P8_140),(.t P8_141)],some P8_142⟩,
 ⟨(.on P8_137 true),.ne .int (.t P8_142) (.c (.int .i64 (.ofNat 0))),some P8_143⟩,
 ⟨(.on P8_131 false),.pick (.t P8_137) (.t P8_143) (.c (.bool false)),some P8_144⟩,
 ⟨.no,.pick (.t P8_131) (.c (.bool true)) (.t P8_144),some P8_145⟩])
 (.cond (.t P8_145) (.seq (.reg [⟨.no,.build [(.str []),(.int .i64 (.ofNat 0)),(.int .u32 (.ofNat 0)),(.sl 0 [] .nil),(.bool false)] [],some P8_146⟩,
 ⟨.no,.mv (.c .nilp),some P8_4⟩,
 ⟨.no,.store 5 (.t P8_5) (.t P8_146),none⟩,
 ⟨.no,.mv (.c (.sl 0 [] .nil)),some P8_6⟩,
 ⟨.no,.mv (.c (.bool false)),some P8_7⟩])
 .ret)
 .skip))
 (.draw [] 21 [⟨⟨.no,.buildSl 0 [(.str []),(.int .u32 (.ofNat 0)),(.int .i64 (.ofNat 0)),(.bool false)] [],some P8_147⟩,.val,0,0⟩,
 ⟨⟨.no,.mv (.t P8_20),some P8_148⟩,.val,0,0⟩,
 ⟨⟨.no,.mv (.t P8_23),some P8_149⟩,.val,0,0⟩,
 ⟨⟨.no,.slice 4 (.t P8_148) none (some (.t P8_149)) none,some P8_150⟩,.val,0,0⟩,
 ⟨⟨.no,.app 4 40 false (.t P8_147) (.t P8_150),some P8_151⟩,.eff,0,1⟩,
 ⟨⟨.no,.load true 3 (.t P8_22),some P8_152⟩,.read,0,1⟩,
 ⟨⟨.no,.mv (.t P8_0),some P8_153⟩,.val,0,1⟩,
 ⟨⟨.no,.mv (.t P8_21),some P8_154⟩,.val,0,1⟩,
 ⟨⟨.no,.ixSl 4 (.t P8_153) (.t P8_154),some P8_155⟩,.val,0,1⟩,
 ⟨⟨.no,.faddr 3 1 (.t P8_155),some P8_156⟩,.val,0,1⟩,
 ⟨⟨.no,.load false 1 (.t P8_156),some P8_157⟩,.read,0,1⟩,
 ⟨⟨.no,.un .not (.t P8_157),some P8_158⟩,.val,0,1⟩,
 ⟨⟨.no,.build [(.str []),(.int .u32 (.ofNat 0)),(.int .i64 (.ofNat 0)),(.bool false)] [(0,3,(.t P8_152)),(3,1,(.t P8_158))],some P8_159⟩,.val,0,1⟩,
 ⟨⟨.no,.buildSl 1 [(.str []),(.int .u32 (.ofNat 0)),(.int .i64 (.ofNat 0)),(.bool false)] [(0,4,(.t P8_159))],some P8_160⟩,.val,0,1⟩,
 ⟨⟨.no,.app 4 40 false (.t P8_151) (.t P8_160),some P8_161⟩,.eff,1,2⟩,
 ⟨⟨.no,.mv (.t P8_20),some P8_162⟩,.val,0,2⟩,
 ⟨⟨.no,.mv (.t P8_23),some P8_163⟩,.val,0,2⟩,
 ⟨⟨.no,.slice 4 (.t P8_162) (some (.t P8_163)) none none,some P8_164⟩,.val,0,2⟩,
 ⟨⟨.no,.app 4 40 false (.t P8_161) (.t P8_164),some P8_165⟩,.eff,2,3⟩,
 ⟨⟨.no,.mv (.t P8_165),some P8_20⟩,.val,3,3⟩])))))))
 (.reg [⟨.no,.mv (.t P8_21),some P8_74⟩,
 ⟨.no,.bin .add (.t P8_74) (.c (.int .i64 (.ofNat 1))),some P8_75⟩,
 ⟨.no,.mv (.t P8_75),some P8_21⟩]))))))
 (.seq (.reg [⟨.no,.mv (.t P8_15),some P8_166⟩,
 ⟨.no,.mv (.t P8_18),some P8_167⟩,
 ⟨.no,.buildSl 1 [(.int .i64 (.ofNat 0))] [(0,1,(.c (.int .i64 (.ofNat 0))))],some P8_168⟩,
 ⟨.no,.mv (.t P8_1),some P8_169⟩,
 ⟨.no,.build [(.str []),(.int .i64 (.ofNat 0)),(.int .u32 (.ofNat 0)),(.sl 0 [] .nil),(.bool false)] [(0,1,(.c (.str [120]))),(1,1,(.c (.int .i64 (.ofNat 2)))),(2,1,(.t P8_167)),(3,1,(.t P8_168)),(4,1,(.t P8_169))],some P8_170⟩,
 ⟨.no,.mv (.t P8_20),some P8_171⟩,
 ⟨.no,.mv (.t P8_19),some P8_172⟩,
 ⟨.no,.eq .int (.t P8_172) (.c (.int .i64 (.ofNat 0))),some P8_173⟩,
 ⟨.no,.mv (.t P8_173),some P8_174⟩,
 ⟨(.on P8_174 true),.mv (.t P8_15),some P8_175⟩,
 ⟨(.on P8_174 true),.mv (.t P8_16),some P8_176⟩,
 ⟨(.on P8_174 true),.call (.c (.fn f_txn_Manager_Commit [] [])) [(.t P8_175),(.t P8_176)],some P8_177⟩,
 ⟨(.on P8_174 true),.eq .int (.t P8_177) (.c (.int .i64 (.ofNat 0))),some P8_178⟩,
 ⟨.no,.pick (.t P8_174) (.t P8_178) (.c (.bool false)),some P8_179⟩,
 ⟨.no,.mv (.t P8_166),some P8_4⟩,
 ⟨.no,.store 5 (.t P8_5) (.t P8_170),none⟩,
 ⟨.no,.mv (.t P8_171),some P8_6⟩,
 ⟨.no,.mv (.t P8_179),some P8_7⟩])
 .ret))))))))))), [.t P8_4,.cell true 5 P8_5,.t P8_6,.t P8_7], 0, false, false⟩
noncomputable def rf_txn_Manager_Pool : RFn := ⟨apOf 4 0 1, mkU 4, (.seq (.reg [⟨.no,.mv (.c .nilp),some P4_2⟩])
 (.seq (.seq (.reg [⟨.no,.mv (.t P4_0),some P4_3⟩,
 ⟨.no,.eq .ptr (.t P4_3) (.c .nilp),some P4_4⟩])
 (.cond (.t P4_4) (.seq (.reg [⟨.no,.mv (.c .nilp),some P4_2⟩])
 .ret)
 .skip))
 (.seq (.reg [⟨.no,.mv (.t P4_0),some P4_5⟩,
 ⟨.no,.nilc (.t P4_5),some P4_6⟩,
 ⟨.no,.faddr 1 1 (.t P4_6),some P4_7⟩,
 ⟨.no,.load false 1 (.t P4_7),some P4_8⟩,
 ⟨.no,.mv (.t P4_8),some P4_2⟩])
 .ret))), [.t P4_2], 0, false, false⟩
noncomputable def rf_girderlaw17_begun : RFn := ⟨apOf 7 0 1, mkU 7, (.seq (.reg [⟨.no,.mv (.c .nilp),some P7_2⟩,
 ⟨.no,.mv (.c (.bool false)),some P7_3⟩])
 (.seq (.reg [⟨.no,.mv (.t P7_0),some P7_18⟩,
 ⟨.no,.call (.c (.fn f_disk_New [] [])) [(.t P7_18)],some P7_19⟩,
 ⟨.no,.mv (.t P7_19),some P7_17⟩,
 ⟨.no,.extr (.t P7_17) 0,some P7_20⟩,
 ⟨.no,.extr (.t P7_17) 1,some P7_21⟩,
 ⟨.no,.mv (.t P7_20),some P7_4⟩,
 ⟨.no,.mv (.t P7_21),some P7_5⟩])
 (.seq (.reg [⟨.no,.mv (.t P7_4),some P7_23⟩,
 ⟨.no,.call (.c (.fn f_wal_Open [] [])) [(.t P7_23)],some P7_24⟩,
 ⟨.no,.mv (.t P7_24),some P7_22⟩,
 ⟨.no,.extr (.t P7_22) 0,some P7_25⟩,
 ⟨.no,.extr (.t P7_22) 1,some P7_26⟩,
 ⟨.no,.extr (.t P7_22) 2,some P7_27⟩,
 ⟨.no,.mv (.t P7_25),some P7_6⟩,
 ⟨.no,.mv (.t P7_26),some P7_7⟩,
 ⟨.no,.mv (.t P7_27),some P7_8⟩])
 (.seq (.reg [⟨.no,.mv (.t P7_4),some P7_29⟩,
 ⟨.no,.mv (.t P7_6),some P7_30⟩,
 ⟨.no,.call (.c (.fn f_pool_New [] [])) [(.t P7_29),(.t P7_30),(.c (.int .i64 (.ofNat 16)))],some P7_31⟩,
 ⟨.no,.mv (.t P7_31),some P7_28⟩,
 ⟨.no,.extr (.t P7_28) 0,some P7_32⟩,
 ⟨.no,.extr (.t P7_28) 1,some P7_33⟩,
 ⟨.no,.mv (.t P7_32),some P7_9⟩,
 ⟨.no,.mv (.t P7_33),some P7_10⟩])
 (.seq (.reg [⟨.no,.mv (.t P7_9),some P7_34⟩,
 ⟨.no,.call (.c (.fn f_txn_New [] [])) [(.t P7_34)],some P7_35⟩,
 ⟨.no,.mv (.t P7_35),some P7_11⟩])
 (.seq (.seq (.reg [⟨.no,.mv (.t P7_10),some P7_36⟩,
 ⟨.no,.ne .int (.t P7_36) (.c (.int .i64 (.ofNat 0))),some P7_37⟩,
 ⟨.no,.mv (.t P7_37),some P7_38⟩,
 ⟨(.on P7_38 false),.mv (.t P7_11),some P7_39⟩,
 ⟨(.on P7_38 false),.eq .ptr (.t P7_39) (.c .nilp),some P7_40⟩,
 ⟨.no,.pick (.t P7_38) (.c (.bool true)) (.t P7_40),some P7_41⟩])
 (.cond (.t P7_41) (.seq (.reg [⟨.no,.mv (.c .nilp),some P7_2⟩,
 ⟨.no,.mv (.c (.bool false)),some P7_3⟩])
 .ret)
 .skip))
 (.seq (.reg [⟨.no,.mv (.t P7_11),some P7_43⟩,
 ⟨.no,.call (.c (.fn f_catalog_Begun [] [])) [(.t P7_43)],some P7_44⟩,
 ⟨.no,.mv (.t P7_44),some P7_42⟩,
 ⟨.no,.extr (.t P7_42) 0,some P7_45⟩,
 ⟨.no,.extr (.t P7_42) 1,some P7_46⟩,
 ⟨.no,.mv (.t P7_45),some P7_12⟩,
 ⟨.no,.mv (.t P7_46),some P7_13⟩])
 (.seq (.reg [⟨.no,.mv (.t P7_11),some P7_47⟩,
 ⟨.no,.call (.c (.fn f_catalog_Begin [] [])) [(.t P7_47)],some P7_48⟩,
 ⟨.no,.mv (.t P7_48),some P7_14⟩])
 (.seq (.reg [⟨.no,.mv (.t P7_11),some P7_50⟩,
 ⟨.no,.call (.c (.fn f_catalog_Begun [] [])) [(.t P7_50)],some P7_51⟩,
 ⟨.no,.mv (.t P7_51),some P7_49⟩,
 ⟨.no,.extr (.t P7_49) 0,some P7_52⟩,
 ⟨.no,.extr (.t P7_49) 1,some P7_53⟩,
 ⟨.no,.mv (.t P7_52),some P7_15⟩,
 ⟨.no,.mv (.t P7_53),some P7_16⟩])
 (.seq (.reg [⟨.no,.mv (.t P7_11),some P7_54⟩,
 ⟨.no,.mv (.t P7_12),some P7_55⟩,
 ⟨.no,.un .not (.t P7_55),some P7_56⟩,
 ⟨.no,.mv (.t P7_56),some P7_57⟩,
 ⟨(.on P7_57 true),.mv (.t P7_13),some P7_58⟩,
 ⟨(.on P7_57 true),.eq .int (.t P7_58) (.c (.int .i64 (.ofNat 0))),some P7_59⟩,
 ⟨.no,.pick (.t P7_57) (.t P7_59) (.c (.bool false)),some P7_60⟩,
 ⟨.no,.mv (.t P7_60),some P7_61⟩,
 ⟨(.on P7_61 true),.mv (.t P7_14),some P7_62⟩,
 ⟨(.on P7_61 true),.eq .int (.t P7_62) (.c (.int .i64 (.ofNat 0))),some P7_63⟩,
 ⟨.no,.pick (.t P7_61) (.t P7_63) (.c (.bool false)),some P7_64⟩,
 ⟨.no,.mv (.t P7_64),some P7_65⟩,
 ⟨(.on P7_65 true),.mv (.t P7_15),some P7_66⟩,
 ⟨.no,.pick (.t P7_65) (.t P7_66) (.c (.bool false)),some P7_67⟩,
 ⟨.no,.mv (.t P7_67),some P7_68⟩,
 ⟨(.on P7_68 true),.mv (.t P7_16),some P7_69⟩,
 ⟨(.on P7_68 true),.eq .int (.t P7_69) (.c (.int .i64 (.ofNat 0))),some P7_70⟩,
 ⟨.no,.pick (.t P7_68) (.t P7_70) (.c (.bool false)),some P7_71⟩,
 ⟨.no,.mv (.t P7_54),some P7_2⟩,
 ⟨.no,.mv (.t P7_71),some P7_3⟩])
 .ret)))))))))), [.t P7_2,.t P7_3], 0, false, false⟩
noncomputable def rf_catalog_Find : RFn := ⟨apOf 5 0 2, mkU 5, (.seq (.reg [⟨.no,.box (.t P5_1),some P5_3⟩,
 ⟨.no,.alloc [(.str []),(.int .i64 (.ofNat 0)),(.int .u32 (.ofNat 0)),(.int .i64 (.ofNat 0)),(.sl 0 [] .nil)],some P5_4⟩,
 ⟨.no,.mv (.c (.int .i64 (.ofNat 0))),some P5_5⟩])
 (.seq (.reg [⟨.no,.mv (.t P5_0),some P5_10⟩,
 ⟨.no,.call (.c (.fn f_catalog_All [] [])) [(.t P5_10)],some P5_11⟩,
 ⟨.no,.mv (.t P5_11),some P5_9⟩,
 ⟨.no,.extr (.t P5_9) 0,some P5_12⟩,
 ⟨.no,.extr (.t P5_9) 1,some P5_13⟩,
 ⟨.no,.mv (.t P5_12),some P5_6⟩,
 ⟨.no,.mv (.t P5_13),some P5_7⟩])
 (.seq (.seq (.reg [⟨.no,.mv (.t P5_7),some P5_14⟩,
 ⟨.no,.ne .int (.t P5_14) (.c (.int .i64 (.ofNat 0))),some P5_15⟩])
 (.cond (.t P5_15) (.seq (.reg [⟨.no,.build [(.str []),(.int .i64 (.ofNat 0)),(.int .u32 (.ofNat 0)),(.int .i64 (.ofNat 0)),(.sl 0 [] .nil)] [],some P5_16⟩,
 ⟨.no,.mv (.t P5_7),some P5_17⟩,
 ⟨.no,.store 5 (.t P5_4) (.t P5_16),none⟩,
 ⟨.no,.mv (.t P5_17),some P5_5⟩])
 .ret)
 .skip))
 (.seq (.reg [⟨.no,.mv (.t P5_6),some P5_18⟩,
 ⟨.no,.fn f_catalog_Find_c1 [] [(.t P5_3)],some P5_19⟩,
 ⟨.no,.call (.c (.fn f_slices_IndexFunc_api_Table [] [])) [(.t P5_18),(.t P5_19)],some P5_20⟩,
 ⟨.no,.mv (.t P5_20),some P5_8⟩])
 (.seq (.seq (.reg [⟨.no,.mv (.t P5_8),some P5_21⟩,
 ⟨.no,.bin .lss (.t P5_21) (.c (.int .i64 (.ofNat 0))),some P5_22⟩])
 (.cond (.t P5_22) (.seq (.reg [⟨.no,.build [(.str []),(.int .i64 (.ofNat 0)),(.int .u32 (.ofNat 0)),(.int .i64 (.ofNat 0)),(.sl 0 [] .nil)] [],some P5_23⟩,
 ⟨.no,.store 5 (.t P5_4) (.t P5_23),none⟩,
 ⟨.no,.mv (.c (.int .i64 (.ofNat 171))),some P5_5⟩])
 .ret)
 .skip))
 (.seq (.reg [⟨.no,.mv (.t P5_6),some P5_24⟩,
 ⟨.no,.mv (.t P5_8),some P5_25⟩,
 ⟨.no,.ixSl 5 (.t P5_24) (.t P5_25),some P5_26⟩,
 ⟨.no,.load true 5 (.t P5_26),some P5_27⟩,
 ⟨.no,.store 5 (.t P5_4) (.t P5_27),none⟩,
 ⟨.no,.mv (.c (.int .i64 (.ofNat 0))),some P5_5⟩])
 .ret)))))), [.cell true 5 P5_4,.t P5_5], 0, false, false⟩
noncomputable def rf_disk_New : RFn := ⟨apOf 4 0 1, mkU 4, (.seq (.reg [⟨.no,.mv (.c .nilp),some P4_2⟩,
 ⟨.no,.mv (.c (.int .i64 (.ofNat 0))),some P4_3⟩])
 (.seq (.seq (.reg [⟨.no,.mv (.t P4_0),some P4_4⟩,
 ⟨.no,.bin .lss (.t P4_4) (.c (.int .i64 (.ofNat 8))),some P4_5⟩,
 ⟨.no,.mv (.t P4_5),some P4_6⟩,
 ⟨(.on P4_6 false),.mv (.t P4_0),some P4_7⟩,
 ⟨(.on P4_6 false),.bin .gtr (.t P4_7) (.c (.int .i64 (.ofNat 2048))),some P4_8⟩,
 ⟨.no,.pick (.t P4_6) (.c (.bool true)) (.t P4_8),some P4_9⟩])
 (.cond (.t P4_9) (.seq (.reg [⟨.no,.mv (.c .nilp),some P4_2⟩,
 ⟨.no,.mv (.c (.int .i64 (.ofNat 1))),some P4_3⟩])
 .ret)
 .skip))
 (.seq (.reg [⟨.no,.mv (.t P4_0),some P4_10⟩,
 ⟨.no,.mkMap,some P4_11⟩,
 ⟨.no,.build [(.int .i64 (.ofNat 0)),.nilm,(.int .u64 (.ofNat 0)),(.sl 0 [] .nil),(.str []),(.str []),(.int .i64 (.ofNat 0)),(.sl 0 [] .nil),(.bool false)] [(0,1,(.t P4_10)),(1,1,(.t P4_11))],some P4_12⟩,
 ⟨.no,.box (.t P4_12),some P4_13⟩,
 ⟨.no,.mv (.t P4_13),some P4_2⟩,
 ⟨.no,.mv (.c (.int .i64 (.ofNat 0))),some P4_3⟩])
 .ret))), [.t P4_2,.t P4_3], 2, false, false⟩
noncomputable def rf_wal_Open : RFn := ⟨apOf 7 0 1, mkU 7, (.seq (.reg [⟨.no,.mv (.c .nilp),some P7_2⟩,
 ⟨.no,.mv (.c (.int .i64 (.ofNat 0))),some P7_3⟩,
 ⟨.no,.mv (.c (.int .i64 (.ofNat 0))),some P7_4⟩])
 (.seq (.seq (.reg [⟨.no,.mv (.t P7_0),some P7_16⟩,
 ⟨.no,.eq .ptr (.t P7_16) (.c .nilp),some P7_17⟩])
 (.cond (.t P7_17) (.seq (.reg [⟨.no,.mv (.c .nilp),some P7_2⟩,
 ⟨.no,.mv (.c (.int .i64 (.ofNat 0))),some P7_3⟩,
 ⟨.no,.mv (.c (.int .i64 (.ofNat 1))),some P7_4⟩])
 .ret)
 .skip))
 (.seq (.reg [⟨.no,.mv (.t P7_0),some P7_19⟩,
 ⟨.no,.call (.c (.fn f_disk_Disk_ReadLog [] [])) [(.t P7_19)],some P7_20⟩,
 ⟨.no,.mv (.t P7_20),some P7_18⟩,
 ⟨.no,.extr (.t P7_18) 0,some P7_21⟩,
 ⟨.no,.extr (.t P7_18) 1,some P7_22⟩,
 ⟨.no,.mv (.t P7_21),some P7_5⟩,
 ⟨.no,.mv (.t P7_22),some P7_6⟩])
 (.seq (.seq (.reg [⟨.no,.mv (.t P7_6),some P7_23⟩,
 ⟨.no,.ne .int (.t P7_23) (.c (.int .i64 (.ofNat 0))),some P7_24⟩])
 (.cond (.t P7_24) (.seq (.reg [⟨.no,.mv (.t P7_6),some P7_25⟩,
 ⟨.no,.mv (.c .nilp),some P7_2⟩,
 ⟨.no,.mv (.c (.int .i64 (.ofNat 0))),some P7_3⟩,
 ⟨.no,.mv (.t P7_25),some P7_4⟩])
 .ret)
 .skip))
 (.seq (.reg [⟨.no,.mv (.t P7_0),some P7_26⟩,
 ⟨.no,.build [.nilp,(.sl 0 [] .nil),(.sl 0 [] .nil),(.int .u64 (.ofNat 0)),(.int .i64 (.ofNat 0)),(.int .i64 (.ofNat 0)),(.str []),(.int .u64 (.ofNat 0))] [(0,1,(.t P7_26)),(3,1,(.c (.int .u64 (.ofNat 1))))],some P7_27⟩,
 ⟨.no,.box (.t P7_27),some P7_28⟩,
 ⟨.no,.mv (.t P7_28),some P7_7⟩])
 (.seq (.block 0 (.loop (.block 1 (.seq (.reg [⟨.no,.mv (.t P7_5),some P7_30⟩,
 ⟨.no,.mv (.t P7_7),some P7_31⟩,
 ⟨.no,.nilc (.t P7_31),some P7_32⟩,
 ⟨.no,.faddr 3 1 (.t P7_32),some P7_33⟩,
 ⟨.no,.load false 1 (.t P7_33),some P7_34⟩,
 ⟨.no,.call (.c (.fn f_wal_taken [] [])) [(.t P7_30),(.t P7_34)],some P7_35⟩,
 ⟨.no,.mv (.t P7_35),some P7_29⟩,
 ⟨.no,.extr (.t P7_29) 0,some P7_36⟩,
 ⟨.no,.extr (.t P7_29) 1,some P7_37⟩,
 ⟨.no,.mv (.t P7_36),some P7_8⟩,
 ⟨.no,.mv (.t P7_37),some P7_9⟩])
 (.seq (.seq (.reg [⟨.no,.mv (.t P7_9),some P7_38⟩,
 ⟨.no,.un .not (.t P7_38),some P7_39⟩])
 (.cond (.t P7_39) (.exit 0)
 .skip))
 (.reg [⟨.no,.mv (.t P7_7),some P7_40⟩,
 ⟨.no,.mv (.t P7_8),some P7_41⟩,
 ⟨.no,.call (.c (.fn f_wal_Log_put [] [])) [(.t P7_40),(.t P7_41)],some P7_42⟩]))))))
 (.seq (.reg [⟨.no,.mv (.t P7_7),some P7_43⟩,
 ⟨.no,.mv (.t P7_7),some P7_44⟩,
 ⟨.no,.nilc (.t P7_44),some P7_45⟩,
 ⟨.no,.faddr 1 1 (.t P7_45),some P7_46⟩,
 ⟨.no,.load false 1 (.t P7_46),some P7_47⟩,
 ⟨.no,.len .sl (.t P7_47),some P7_48⟩,
 ⟨.no,.nilc (.t P7_43),some P7_49⟩,
 ⟨.no,.faddr 4 1 (.t P7_49),some P7_50⟩,
 ⟨.no,.store 1 (.t P7_50) (.t P7_48),none⟩])
 (.seq (.reg [⟨.no,.mv (.t P7_5),some P7_51⟩,
 ⟨.no,.len .str (.t P7_51),some P7_52⟩,
 ⟨.no,.mv (.t P7_7),some P7_53⟩,
 ⟨.no,.nilc (.t P7_53),some P7_54⟩,
 ⟨.no,.faddr 3 1 (.t P7_54),some P7_55⟩,
 ⟨.no,.load false 1 (.t P7_55),some P7_56⟩,
 ⟨.no,.bin .sub (.t P7_56) (.c (.int .u64 (.ofNat 1))),some P7_57⟩,
 ⟨.no,.conv (.toInt .i64) (.t P7_57),some P7_58⟩,
 ⟨.no,.bin .sub (.t P7_52) (.t P7_58),some P7_59⟩,
 ⟨.no,.mv (.t P7_59),some P7_10⟩])
 (.seq (.seq (.reg [⟨.no,.mv (.t P7_10),some P7_60⟩,
 ⟨.no,.bin .gtr (.t P7_60) (.c (.int .i64 (.ofNat 0))),some P7_61⟩])
 (.cond (.t P7_61) (.seq (.seq (.reg [⟨.no,.mv (.t P7_0),some P7_62⟩,
 ⟨.no,.mv (.t P7_5),some P7_63⟩,
 ⟨.no,.len .str (.t P7_63),some P7_64⟩,
 ⟨.no,.mv (.t P7_10),some P7_65⟩,
 ⟨.no,.bin .sub (.t P7_64) (.t P7_65),some P7_66⟩,
 ⟨.no,.call (.c (.fn f_disk_Disk_CutLog [] [])) [(.t P7_62),(.t P7_66)],some P7_67⟩,
 ⟨.no,.mv (.t P7_67),some P7_11⟩])
 (.seq (.reg [⟨.no,.mv (.t P7_11),some P7_68⟩,
 ⟨.no,.ne .int (.t P7_68) (.c (.int .i64 (.ofNat 0))),some P7_69⟩])
 (.cond (.t P7_69) (.seq (.reg [⟨.no,.mv (.t P7_11),some P7_70⟩,
 ⟨.no,.mv (.c .nilp),some P7_2⟩,
 ⟨.no,.mv (.c (.int .i64 (.ofNat 0))),some P7_3⟩,
 ⟨.no,.mv (.t P7_70),some P7_4⟩])
 .ret)
 .skip)))
 (.seq (.reg [⟨.no,.mv (.t P7_0),some P7_71⟩,
 ⟨.no,.call (.c (.fn f_disk_Disk_SyncLog [] [])) [(.t P7_71)],some P7_72⟩,
 ⟨.no,.mv (.t P7_72),some P7_12⟩])
 (.seq (.reg [⟨.no,.mv (.t P7_12),some P7_73⟩,
 ⟨.no,.ne .int (.t P7_73) (.c (.int .i64 (.ofNat 0))),some P7_74⟩])
 (.cond (.t P7_74) (.seq (.reg [⟨.no,.mv (.t P7_12),some P7_75⟩,
 ⟨.no,.mv (.c .nilp),some P7_2⟩,
 ⟨.no,.mv (.c (.int .i64 (.ofNat 0))),some P7_3⟩,
 ⟨.no,.mv (.t P7_75),some P7_4⟩])
 .ret)
 .skip))))
 .skip))
 (.seq (.reg [⟨.no,.mv (.t P7_0),some P7_77⟩,
 ⟨.no,.call (.c (.fn f_disk_Disk_Mark [] [])) [(.t P7_77)],some P7_78⟩,
 ⟨.no,.mv (.t P7_78),some P7_76⟩,
 ⟨.no,.extr (.t P7_76) 0,some P7_79⟩,
 ⟨.no,.extr (.t P7_76) 1,some P7_80⟩,
 ⟨.no,.mv (.t P7_79),some P7_13⟩,
 ⟨.no,.mv (.t P7_80),some P7_6⟩])
 (.seq (.seq (.reg [⟨.no,.mv (.t P7_6),some P7_81⟩,
 ⟨.no,.ne .int (.t P7_81) (.c (.int .i64 (.ofNat 0))),some P7_82⟩])
 (.cond (.t P7_82) (.seq (.reg [⟨.no,.mv (.t P7_6),some P7_83⟩,
 ⟨.no,.mv (.c .nilp),some P7_2⟩,
 ⟨.no,.mv (.c (.int .i64 (.ofNat 0))),some P7_3⟩,
 ⟨.no,.mv (.t P7_83),some P7_4⟩])
 .ret)
 .skip))
 (.seq (.seq (.reg [⟨.no,.mv (.t P7_7),some P7_85⟩,
 ⟨.no,.mv (.t P7_13),some P7_86⟩,
 ⟨.no,.call (.c (.fn f_wal_Log_find [] [])) [(.t P7_85),(.t P7_86)],some P7_87⟩,
 ⟨.no,.mv (.t P7_87),some P7_84⟩,
 ⟨.no,.extr (.t P7_84) 0,some P7_88⟩,
 ⟨.no,.extr (.t P7_84) 1,some P7_89⟩,
 ⟨.no,.mv (.t P7_88),some P7_14⟩,
 ⟨.no,.mv (.t P7_89),some P7_15⟩])
 (.seq (.reg [⟨.no,.mv (.t P7_15),some P7_90⟩])
 (.cond (.t P7_90) (.reg [⟨.no,.mv (.t P7_7),some P7_91⟩,
 ⟨.no,.mv (.t P7_13),some P7_92⟩,
 ⟨.no,.nilc (.t P7_91),some P7_93⟩,
 ⟨.no,.faddr 7 1 (.t P7_93),some P7_94⟩,
 ⟨.no,.store 1 (.t P7_94) (.t P7_92),none⟩])
 .skip)))
 (.seq (.reg [⟨.no,.mv (.t P7_7),some P7_95⟩,
 ⟨.no,.mv (.t P7_10),some P7_96⟩,
 ⟨.no,.mv (.t P7_95),some P7_2⟩,
 ⟨.no,.mv (.t P7_96),some P7_3⟩,
 ⟨.no,.mv (.c (.int .i64 (.ofNat 0))),some P7_4⟩])
 .ret))))))))))))), [.t P7_2,.t P7_3,.t P7_4], 2, false, false⟩
noncomputable def rf_smo_Create : RFn := ⟨apOf 5 0 2, mkU 5, (.seq (.reg [⟨.no,.mv (.c (.int .u32 (.ofNat 0))),some P5_4⟩,
 ⟨.no,.mv (.c (.int .i64 (.ofNat 0))),some P5_5⟩])
 (.seq (.reg [⟨.no,.mv (.t P5_0),some P5_8⟩,
 ⟨.no,.mv (.t P5_1),some P5_9⟩,
 ⟨.no,.build [.nilp,(.int .i64 (.ofNat 0)),(.int .i64 (.ofNat 0)),(.int .i64 (.ofNat 0))] [(0,1,(.t P5_8)),(1,1,(.t P5_9))],some P5_10⟩,
 ⟨.no,.box (.t P5_10),some P5_11⟩,
 ⟨.no,.mv (.t P5_11),some P5_6⟩])
 (.seq (.reg [⟨.no,.mv (.t P5_6),some P5_12⟩,
 ⟨.no,.call (.c (.fn f_smo_changer_allocate [] [])) [(.t P5_12)],some P5_13⟩,
 ⟨.no,.mv (.t P5_13),some P5_7⟩])
 (.seq (.reg [⟨.no,.mv (.t P5_6),some P5_14⟩,
 ⟨.no,.mv (.t P5_7),some P5_15⟩,
 ⟨.no,.call (.c (.fn f_node_FormatLeaf [] [])) [(.c (.int .u32 (.ofNat 0)))],some P5_16⟩,
 ⟨.no,.call (.c (.fn f_smo_changer_do [] [])) [(.t P5_14),(.t P5_15),(.t P5_16)],some P5_17⟩])
 (.seq (.seq (.reg [⟨.no,.mv (.t P5_6),some P5_18⟩,
 ⟨.no,.nilc (.t P5_18),some P5_19⟩,
 ⟨.no,.faddr 3 1 (.t P5_19),some P5_20⟩,
 ⟨.no,.load false 1 (.t P5_20),some P5_21⟩,
 ⟨.no,.ne .int (.t P5_21) (.c (.int .i64 (.ofNat 0))),some P5_22⟩])
 (.cond (.t P5_22) (.seq (.draw [] 7 [⟨⟨.no,.mv (.t P5_6),some P5_23⟩,.val,0,0⟩,
 ⟨⟨.no,.nilc (.t P5_23),some P5_24⟩,.val,0,0⟩,
 ⟨⟨.no,.faddr 3 1 (.t P5_24),some P5_25⟩,.val,0,0⟩,
 ⟨⟨.no,.load false 1 (.t P5_25),some P5_26⟩,.read,0,0⟩,
 ⟨⟨.no,.mv (.c (.int .u32 (.ofNat 0))),some P5_4⟩,.val,0,0⟩,
 ⟨⟨.no,.mv (.t P5_26),some P5_5⟩,.val,0,0⟩])
 .ret)
 .skip))
 (.seq (.reg [⟨.no,.mv (.t P5_7),some P5_27⟩,
 ⟨.no,.mv (.t P5_27),some P5_4⟩,
 ⟨.no,.mv (.c (.int .i64 (.ofNat 0))),some P5_5⟩])
 .ret)))))), [.t P5_4,.t P5_5], 0, false, false⟩
noncomputable def rf_girderlaw15_keyOf : RFn := ⟨apOf 4 0 1, mkU 4, (.seq (.reg [⟨.no,.mv (.c (.str [])),some P4_2⟩])
 (.seq (.reg [⟨.no,.mv (.t P4_0),some P4_3⟩,
 ⟨.no,.bin .and (.t P4_3) (.c (.int .i64 (.ofNat 7))),some P4_4⟩,
 ⟨.no,.bin .add (.c (.int .i64 (.ofNat 97))) (.t P4_4),some P4_5⟩,
 ⟨.no,.conv (.toInt .u8) (.t P4_5),some P4_6⟩,
 ⟨.no,.buildSl 1 [(.int .u8 (.ofNat 0))] [(0,1,(.t P4_6))],some P4_7⟩,
 ⟨.no,.conv .toStr (.t P4_7),some P4_8⟩,
 ⟨.no,.bin .add (.c (.str [107])) (.t P4_8),some P4_9⟩,
 ⟨.no,.mv (.t P4_9),some P4_2⟩])
 .ret)), [.t P4_2], 0, false, false⟩
noncomputable def rf_smo_Insert : RFn := ⟨apOf 7 0 5, mkU 7, (.seq (.reg [⟨.no,.box (.t P7_3),some P7_8⟩,
 ⟨.no,.mv (.c (.int .i64 (.ofNat 0))),some P7_10⟩])
 (.seq (.seq (.reg [⟨.no,.faddr 0 1 (.t P7_8),some P7_18⟩,
 ⟨.no,.load false 1 (.t P7_18),some P7_19⟩,
 ⟨.no,.len .str (.t P7_19),some P7_20⟩,
 ⟨.no,.bin .gtr (.t P7_20) (.c (.int .i64 (.ofNat 64))),some P7_21⟩])
 (.cond (.t P7_21) (.seq (.reg [⟨.no,.mv (.c (.int .i64 (.ofNat 112))),some P7_10⟩])
 .ret)
 .skip))
 (.seq (.reg [⟨.no,.mv (.t P7_0),some P7_23⟩,
 ⟨.no,.mv (.t P7_1),some P7_24⟩,
 ⟨.no,.mv (.t P7_2),some P7_25⟩,
 ⟨.no,.load true 3 (.t P7_8),some P7_26⟩,
 ⟨.no,.mv (.t P7_4),some P7_27⟩,
 ⟨.no,.call (.c (.fn f_smo_ready [] [])) [(.t P7_23),(.t P7_24),(.t P7_25),(.t P7_26),(.t P7_27)],some P7_28⟩,
 ⟨.no,.mv (.t P7_28),some P7_22⟩,
 ⟨.no,.extr (.t P7_22) 0,some P7_29⟩,
 ⟨.no,.extr (.t P7_22) 1,some P7_30⟩,
 ⟨.no,.mv (.t P7_29),some P7_11⟩,
 ⟨.no,.mv (.t P7_30),some P7_12⟩])
 (.seq (.seq (.reg [⟨.no,.mv (.t P7_12),some P7_31⟩,
 ⟨.no,.ne .int (.t P7_31) (.c (.int .i64 (.ofNat 0))),some P7_32⟩])
 (.cond (.t P7_32) (.seq (.reg [⟨.no,.mv (.t P7_12),some P7_33⟩,
 ⟨.no,.mv (.t P7_33),some P7_10⟩])
 .ret)
 .skip))
 (.seq (.reg [⟨.no,.mv (.t P7_0),some P7_35⟩,
 ⟨.no,.call (.c (.fn f_txn_Manager_Pool [] [])) [(.t P7_35)],some P7_36⟩,
 ⟨.no,.mv (.t P7_11),some P7_37⟩,
 ⟨.no,.call (.c (.fn f_pool_Pool_Get [] [])) [(.t P7_36),(.t P7_37)],some P7_38⟩,
 ⟨.no,.mv (.t P7_38),some P7_34⟩,
 ⟨.no,.extr (.t P7_34) 0,some P7_39⟩,
 ⟨.no,.extr (.t P7_34) 1,some P7_40⟩,
 ⟨.no,.alloc [(.int .u32 (.ofNat 0)),(.int .u64 (.ofNat 0)),(.int .i64 (.ofNat 0)),(.str []),(.sl 0 [] .nil)],some P7_13⟩,
 ⟨.no,.store 5 (.t P7_13) (.t P7_39),none⟩,
 ⟨.no,.mv (.t P7_40),some P7_12⟩])
 (.seq (.seq (.reg [⟨.no,.mv (.t P7_12),some P7_41⟩,
 ⟨.no,.ne .int (.t P7_41) (.c (.int .i64 (.ofNat 0))),some P7_42⟩])
 (.cond (.t P7_42) (.seq (.reg [⟨.no,.mv (.t P7_12),some P7_43⟩,
 ⟨.no,.mv (.t P7_43),some P7_10⟩])
 .ret)
 .skip))
 (.seq (.reg [⟨.no,.load true 5 (.t P7_13),some P7_45⟩,
 ⟨.no,.call (.c (.fn f_node_Leaf [] [])) [(.t P7_45)],some P7_46⟩,
 ⟨.no,.mv (.t P7_46),some P7_44⟩,
 ⟨.no,.extr (.t P7_44) 0,some P7_47⟩,
 ⟨.no,.extr (.t P7_44) 1,some P7_48⟩,
 ⟨.no,.mv (.t P7_47),some P7_14⟩,
 ⟨.no,.mv (.t P7_48),some P7_12⟩])
 (.seq (.seq (.reg [⟨.no,.mv (.t P7_12),some P7_49⟩,
 ⟨.no,.ne .int (.t P7_49) (.c (.int .i64 (.ofNat 0))),some P7_50⟩])
 (.cond (.t P7_50) (.seq (.reg [⟨.no,.mv (.t P7_12),some P7_51⟩,
 ⟨.no,.mv (.t P7_51),some P7_10⟩])
 .ret)
 .skip))
 (.seq (.reg [⟨.no,.mv (.t P7_14),some P7_53⟩,
 ⟨.no,.load true 3 (.t P7_8),some P7_54⟩,
 ⟨.no,.call (.c (.fn f_node_Find [] [])) [(.t P7_53),(.t P7_54)],some P7_55⟩,
 ⟨.no,.mv (.t P7_55),some P7_52⟩,
 ⟨.no,.extr (.t P7_52) 0,some P7_56⟩,
 ⟨.no,.extr (.t P7_52) 1,some P7_57⟩,
 ⟨.no,.mv (.t P7_56),some P7_15⟩,
 ⟨.no,.mv (.t P7_57),some P7_16⟩])
 (.seq (.reg [⟨.no,.alloc [(.int .i64 (.ofNat 0)),(.int .i64 (.ofNat 0)),(.str []),(.str [])],some P7_17⟩])
 (.seq (.block 0 (.seq (.reg [⟨.no,.mv (.t P7_16),some P7_66⟩,
 ⟨.no,.mv (.t P7_66),some P7_67⟩,
 ⟨(.on P7_67 true),.mv (.t P7_14),some P7_68⟩,
 ⟨(.on P7_67 true),.mv (.t P7_15),some P7_69⟩,
 ⟨(.on P7_67 true),.ixSl 4 (.t P7_68) (.t P7_69),some P7_70⟩,
 ⟨(.on P7_67 true),.faddr 3 1 (.t P7_70),some P7_71⟩,
 ⟨(.on P7_67 true),.load false 1 (.t P7_71),some P7_72⟩,
 ⟨.no,.pick (.t P7_67) (.t P7_72) (.c (.bool false)),some P7_73⟩,
 ⟨.no,.mv (.t P7_73),some P7_65⟩])
 (.cond (.t P7_65) (.seq (.reg [⟨.no,.mv (.c (.int .i64 (.ofNat 121))),some P7_10⟩])
 .ret)
 (.seq (.reg [⟨.no,.mv (.t P7_16),some P7_75⟩,
 ⟨.no,.mv (.t P7_75),some P7_74⟩])
 (.cond (.t P7_74) (.reg [⟨.no,.load true 5 (.t P7_13),some P7_77⟩,
 ⟨.no,.load true 3 (.t P7_8),some P7_78⟩,
 ⟨.no,.call (.c (.fn f_node_Turn [] [])) [(.t P7_77),(.t P7_78),(.c (.bool true))],some P7_79⟩,
 ⟨.no,.mv (.t P7_79),some P7_76⟩,
 ⟨.no,.extr (.t P7_76) 0,some P7_80⟩,
 ⟨.no,.extr (.t P7_76) 1,some P7_81⟩,
 ⟨.no,.store 4 (.t P7_17) (.t P7_80),none⟩,
 ⟨.no,.mv (.t P7_81),some P7_12⟩])
 (.reg [⟨.no,.load true 5 (.t P7_13),some P7_59⟩,
 ⟨.no,.load true 3 (.t P7_8),some P7_60⟩,
 ⟨.no,.build [(.str []),(.int .u32 (.ofNat 0)),(.int .i64 (.ofNat 0)),(.bool false)] [(0,3,(.t P7_60)),(3,1,(.c (.bool true)))],some P7_61⟩,
 ⟨.no,.call (.c (.fn f_node_PutItem [] [])) [(.t P7_59),(.t P7_61)],some P7_62⟩,
 ⟨.no,.mv (.t P7_62),some P7_58⟩,
 ⟨.no,.extr (.t P7_58) 0,some P7_63⟩,
 ⟨.no,.extr (.t P7_58) 1,some P7_64⟩,
 ⟨.no,.store 4 (.t P7_17) (.t P7_63),none⟩,
 ⟨.no,.mv (.t P7_64),some P7_12⟩]))))))
 (.seq (.seq (.reg [⟨.no,.mv (.t P7_12),some P7_82⟩,
 ⟨.no,.ne .int (.t P7_82) (.c (.int .i64 (.ofNat 0))),some P7_83⟩])
 (.cond (.t P7_83) (.seq (.reg [⟨.no,.mv (.t P7_12),some P7_84⟩,
 ⟨.no,.mv (.t P7_84),some P7_10⟩])
 .ret)
 .skip))
 (.seq (.reg [⟨.no,.mv (.t P7_0),some P7_86⟩,
 ⟨.no,.mv (.t P7_1),some P7_87⟩,
 ⟨.no,.mv (.t P7_11),some P7_88⟩,
 ⟨.no,.load true 4 (.t P7_17),some P7_89⟩,
 ⟨.no,.mv (.t P7_2),some P7_90⟩,
 ⟨.no,.conv (.toInt .i64) (.t P7_90),some P7_91⟩,
 ⟨.no,.load true 3 (.t P7_8),some P7_92⟩,
 ⟨.no,.build [(.int .u32 (.ofNat 0)),(.int .i64 (.ofNat 0)),(.int .i64 (.ofNat 0)),(.str []),(.str []),(.int .i64 (.ofNat 0)),(.int .i64 (.ofNat 0)),(.str []),(.int .u32 (.ofNat 0)),(.int .i64 (.ofNat 0)),(.bool false)] [(0,1,(.t P7_88)),(1,4,(.t P7_89)),(5,1,(.c (.int .i64 (.ofNat 2)))),(6,1,(.t P7_91)),(7,3,(.t P7_92)),(10,1,(.c (.bool true)))],some P7_93⟩,
 ⟨.no,.call (.c (.fn f_txn_Manager_Log [] [])) [(.t P7_86),(.t P7_87),(.t P7_93)],some P7_94⟩,
 ⟨.no,.mv (.t P7_94),some P7_85⟩,
 ⟨.no,.extr (.t P7_85) 0,some P7_95⟩,
 ⟨.no,.extr (.t P7_85) 1,some P7_96⟩,
 ⟨.no,.mv (.t P7_96),some P7_12⟩])
 (.seq (.reg [⟨.no,.mv (.t P7_12),some P7_97⟩,
 ⟨.no,.mv (.t P7_97),some P7_10⟩])
 .ret)))))))))))))), [.t P7_10], 0, false, false⟩
noncomputable def rf_index_name : RFn := ⟨apOf 5 0 4, mkU 5, (.seq (.reg [⟨.no,.box (.t P5_0),some P5_4⟩,
 ⟨.no,.box (.t P5_2),some P5_6⟩,
 ⟨.no,.alloc [(.int .i64 (.ofNat 0)),(.int .i64 (.ofNat 0)),(.int .u32 (.ofNat 0)),(.int .i64 (.ofNat 0))],some P5_8⟩])
 (.seq (.seq (.reg [⟨.no,.mv (.t P5_3),some P5_9⟩])
 (.cond (.t P5_9) (.seq (.reg [⟨.no,.mv (.t P5_1),some P5_10⟩,
 ⟨.no,.faddr 0 3 (.t P5_6),some P5_11⟩,
 ⟨.no,.faddr 1 2 (.t P5_11),some P5_12⟩,
 ⟨.no,.load true 2 (.t P5_12),some P5_13⟩,
 ⟨.no,.call (.c (.fn f_index_Row [] [])) [(.t P5_10),(.t P5_13)],some P5_14⟩,
 ⟨.no,.store 4 (.t P5_8) (.t P5_14),none⟩])
 .ret)
 .skip))
 (.seq (.reg [⟨.no,.faddr 2 1 (.t P5_4),some P5_15⟩,
 ⟨.no,.load false 1 (.t P5_15),some P5_16⟩,
 ⟨.no,.call (.c (.fn f_index_End [] [])) [(.t P5_16)],some P5_17⟩,
 ⟨.no,.store 4 (.t P5_8) (.t P5_17),none⟩])
 .ret))), [.cell true 4 P5_8], 0, false, false⟩
noncomputable def rf_tree_Behind : RFn := ⟨apOf 6 0 3, mkU 6, (.seq (.reg [⟨.no,.box (.t P6_2),some P6_5⟩,
 ⟨.no,.alloc [(.str []),(.int .u32 (.ofNat 0)),(.int .i64 (.ofNat 0)),(.bool false)],some P6_6⟩,
 ⟨.no,.mv (.c (.bool false)),some P6_7⟩,
 ⟨.no,.mv (.c (.int .i64 (.ofNat 0))),some P6_8⟩])
 (.seq (.reg [⟨.no,.mv (.t P6_0),some P6_17⟩,
 ⟨.no,.mv (.t P6_1),some P6_18⟩,
 ⟨.no,.load true 3 (.t P6_5),some P6_19⟩,
 ⟨.no,.call (.c (.fn f_tree_Path [] [])) [(.t P6_17),(.t P6_18),(.t P6_19)],some P6_20⟩,
 ⟨.no,.mv (.t P6_20),some P6_16⟩,
 ⟨.no,.extr (.t P6_16) 0,some P6_21⟩,
 ⟨.no,.extr (.t P6_16) 1,some P6_22⟩,
 ⟨.no,.mv (.t P6_21),some P6_9⟩,
 ⟨.no,.mv (.t P6_22),some P6_10⟩])
 (.seq (.seq (.reg [⟨.no,.mv (.t P6_10),some P6_23⟩,
 ⟨.no,.ne .int (.t P6_23) (.c (.int .i64 (.ofNat 0))),some P6_24⟩])
 (.cond (.t P6_24) (.seq (.reg [⟨.no,.build [(.str []),(.int .u32 (.ofNat 0)),(.int .i64 (.ofNat 0)),(.bool false)] [],some P6_25⟩,
 ⟨.no,.mv (.t P6_10),some P6_26⟩,
 ⟨.no,.store 4 (.t P6_6) (.t P6_25),none⟩,
 ⟨.no,.mv (.c (.bool false)),some P6_7⟩,
 ⟨.no,.mv (.t P6_26),some P6_8⟩])
 .ret)
 .skip))
 (.seq (.reg [⟨.no,.mv (.t P6_9),some P6_27⟩,
 ⟨.no,.mv (.t P6_9),some P6_28⟩,
 ⟨.no,.len .sl (.t P6_28),some P6_29⟩,
 ⟨.no,.bin .sub (.t P6_29) (.c (.int .i64 (.ofNat 1))),some P6_30⟩,
 ⟨.no,.ixSl 1 (.t P6_27) (.t P6_30),some P6_31⟩,
 ⟨.no,.load false 1 (.t P6_31),some P6_32⟩,
 ⟨.no,.mv (.t P6_32),some P6_11⟩])
 (.seq (.reg [⟨.no,.mv (.t P6_0),some P6_34⟩,
 ⟨.no,.mv (.t P6_11),some P6_35⟩,
 ⟨.no,.call (.c (.fn f_tree_leaf [] [])) [(.t P6_34),(.t P6_35)],some P6_36⟩,
 ⟨.no,.mv (.t P6_36),some P6_33⟩,
 ⟨.no,.extr (.t P6_33) 0,some P6_37⟩,
 ⟨.no,.extr (.t P6_33) 1,some P6_38⟩,
 ⟨.no,.extr (.t P6_33) 2,some P6_39⟩,
 ⟨.no,.alloc [(.int .u32 (.ofNat 0)),(.int .u64 (.ofNat 0)),(.int .i64 (.ofNat 0)),(.str []),(.sl 0 [] .nil)],some P6_12⟩,
 ⟨.no,.store 5 (.t P6_12) (.t P6_37),none⟩,
 ⟨.no,.mv (.t P6_38),some P6_13⟩,
 ⟨.no,.mv (.t P6_39),some P6_10⟩])
 (.seq (.seq (.reg [⟨.no,.mv (.t P6_10),some P6_40⟩,
 ⟨.no,.ne .int (.t P6_40) (.c (.int .i64 (.ofNat 0))),some P6_41⟩])
 (.cond (.t P6_41) (.seq (.reg [⟨.no,.build [(.str []),(.int .u32 (.ofNat 0)),(.int .i64 (.ofNat 0)),(.bool false)] [],some P6_42⟩,
 ⟨.no,.mv (.t P6_10),some P6_43⟩,
 ⟨.no,.store 4 (.t P6_6) (.t P6_42),none⟩,
 ⟨.no,.mv (.c (.bool false)),some P6_7⟩,
 ⟨.no,.mv (.t P6_43),some P6_8⟩])
 .ret)
 .skip))
 (.seq (.reg [⟨.no,.mv (.t P6_13),some P6_45⟩,
 ⟨.no,.load true 3 (.t P6_5),some P6_46⟩,
 ⟨.no,.call (.c (.fn f_node_Find [] [])) [(.t P6_45),(.t P6_46)],some P6_47⟩,
 ⟨.no,.mv (.t P6_47),some P6_44⟩,
 ⟨.no,.extr (.t P6_44) 0,some P6_48⟩,
 ⟨.no,.extr (.t P6_44) 1,some P6_49⟩,
 ⟨.no,.mv (.t P6_48),some P6_14⟩,
 ⟨.no,.mv (.t P6_49),some P6_15⟩])
 (.seq (.seq (.reg [⟨.no,.mv (.t P6_15),some P6_50⟩])
 (.cond (.t P6_50) (.reg [⟨.no,.mv (.t P6_14),some P6_51⟩,
 ⟨.no,.bin .add (.t P6_51) (.c (.int .i64 (.ofNat 1))),some P6_52⟩,
 ⟨.no,.mv (.t P6_52),some P6_14⟩])
 .skip))
 (.seq (.reg [⟨.no,.mv (.t P6_0),some P6_53⟩,
 ⟨.no,.mv (.t P6_11),some P6_54⟩,
 ⟨.no,.mv (.t P6_14),some P6_55⟩,
 ⟨.no,.call (.c (.fn f_tree_first [] [])) [(.t P6_53),(.t P6_54),(.t P6_55)],some P6_56⟩,
 ⟨.no,.extr (.t P6_56) 0,some P6_57⟩,
 ⟨.no,.extr (.t P6_56) 1,some P6_58⟩,
 ⟨.no,.extr (.t P6_56) 2,some P6_59⟩,
 ⟨.no,.store 4 (.t P6_6) (.t P6_57),none⟩,
 ⟨.no,.mv (.t P6_58),some P6_7⟩,
 ⟨.no,.mv (.t P6_59),some P6_8⟩])
 .ret))))))))), [.cell true 4 P6_6,.t P6_7,.t P6_8], 0, false, false⟩
noncomputable def rf_catalog_Begin : RFn := ⟨apOf 6 0 1, mkU 6, (.seq (.reg [⟨.no,.mv (.c (.int .i64 (.ofNat 0))),some P6_2⟩])
 (.seq (.reg [⟨.no,.mv (.t P6_0),some P6_14⟩,
 ⟨.no,.call (.c (.fn f_txn_Manager_Begin [] [])) [(.t P6_14)],some P6_15⟩,
 ⟨.no,.mv (.t P6_15),some P6_13⟩,
 ⟨.no,.extr (.t P6_13) 0,some P6_16⟩,
 ⟨.no,.extr (.t P6_13) 1,some P6_17⟩,
 ⟨.no,.mv (.t P6_16),some P6_3⟩,
 ⟨.no,.mv (.t P6_17),some P6_4⟩])
 (.seq (.seq (.reg [⟨.no,.mv (.t P6_4),some P6_18⟩,
 ⟨.no,.ne .int (.t P6_18) (.c (.int .i64 (.ofNat 0))),some P6_19⟩])
 (.cond (.t P6_19) (.seq (.reg [⟨.no,.mv (.t P6_4),some P6_20⟩,
 ⟨.no,.mv (.t P6_20),some P6_2⟩])
 .ret)
 .skip))
 (.seq (.reg [⟨.no,.call (.c (.fn f_space_Fresh [] [])) [(.c (.int .i64 (.ofNat 2)))],some P6_22⟩,
 ⟨.no,.mv (.t P6_22),some P6_21⟩,
 ⟨.no,.extr (.t P6_21) 0,some P6_23⟩,
 ⟨.no,.extr (.t P6_21) 1,some P6_24⟩,
 ⟨.no,.mv (.t P6_23),some P6_5⟩,
 ⟨.no,.mv (.t P6_24),some P6_6⟩])
 (.seq (.seq (.reg [⟨.no,.mv (.t P6_5),some P6_25⟩,
 ⟨.no,.len .sl (.t P6_25),some P6_26⟩,
 ⟨.no,.mv (.c (.int .i64 (.ofNat 0))),some P6_27⟩])
 (.block 0 (.loop (.seq (.reg [⟨.no,.bin .lss (.t P6_27) (.t P6_26),some P6_28⟩])
 (.seq (.cond (.t P6_28) .skip
 (.exit 0))
 (.seq (.block 1 (.seq (.reg [⟨.no,.ixSl 4 (.t P6_25) (.t P6_27),some P6_29⟩,
 ⟨.no,.load true 4 (.t P6_29),some P6_30⟩,
 ⟨.no,.alloc [(.int .i64 (.ofNat 0)),(.int .i64 (.ofNat 0)),(.str []),(.str [])],some P6_8⟩,
 ⟨.no,.store 4 (.t P6_8) (.t P6_30),none⟩])
 (.seq (.reg [⟨.no,.mv (.t P6_0),some P6_32⟩,
 ⟨.no,.mv (.t P6_3),some P6_33⟩,
 ⟨.no,.load true 4 (.t P6_8),some P6_34⟩,
 ⟨.no,.build [(.int .u32 (.ofNat 0)),(.int .i64 (.ofNat 0)),(.int .i64 (.ofNat 0)),(.str []),(.str []),(.int .i64 (.ofNat 0)),(.int .i64 (.ofNat 0)),(.str []),(.int .u32 (.ofNat 0)),(.int .i64 (.ofNat 0)),(.bool false)] [(0,1,(.c (.int .u32 (.ofNat 1)))),(1,4,(.t P6_34)),(5,1,(.c (.int .i64 (.ofNat 1))))],some P6_35⟩,
 ⟨.no,.call (.c (.fn f_txn_Manager_Log [] [])) [(.t P6_32),(.t P6_33),(.t P6_35)],some P6_36⟩,
 ⟨.no,.mv (.t P6_36),some P6_31⟩,
 ⟨.no,.extr (.t P6_31) 0,some P6_37⟩,
 ⟨.no,.extr (.t P6_31) 1,some P6_38⟩,
 ⟨.no,.mv (.t P6_37),some P6_9⟩,
 ⟨.no,.mv (.t P6_38),some P6_10⟩])
 (.seq (.reg [⟨.no,.mv (.t P6_10),some P6_39⟩,
 ⟨.no,.ne .int (.t P6_39) (.c (.int .i64 (.ofNat 0))),some P6_40⟩])
 (.cond (.t P6_40) (.seq (.reg [⟨.no,.mv (.t P6_10),some P6_41⟩,
 ⟨.no,.mv (.t P6_41),some P6_2⟩])
 .ret)
 .skip)))))
 (.reg [⟨.no,.bin .add (.t P6_27) (.c (.int .i64 (.ofNat 1))),some P6_42⟩,
 ⟨.no,.mv (.t P6_42),some P6_27⟩])))))))
 (.seq (.seq (.reg [⟨.no,.mv (.t P6_0),some P6_44⟩,
 ⟨.no,.mv (.t P6_3),some P6_45⟩,
 ⟨.no,.call (.c (.fn f_heap_Format [] [])) [],some P6_46⟩,
 ⟨.no,.build [(.int .u32 (.ofNat 0)),(.int .i64 (.ofNat 0)),(.int .i64 (.ofNat 0)),(.str []),(.str []),(.int .i64 (.ofNat 0)),(.int .i64 (.ofNat 0)),(.str []),(.int .u32 (.ofNat 0)),(.int .i64 (.ofNat 0)),(.bool false)] [(0,1,(.c (.int .u32 (.ofNat 2)))),(1,4,(.t P6_46)),(5,1,(.c (.int .i64 (.ofNat 1))))],some P6_47⟩,
 ⟨.no,.call (.c (.fn f_txn_Manager_Log [] [])) [(.t P6_44),(.t P6_45),(.t P6_47)],some P6_48⟩,
 ⟨.no,.mv (.t P6_48),some P6_43⟩,
 ⟨.no,.extr (.t P6_43) 0,some P6_49⟩,
 ⟨.no,.extr (.t P6_43) 1,some P6_50⟩,
 ⟨.no,.mv (.t P6_49),some P6_11⟩,
 ⟨.no,.mv (.t P6_50),some P6_12⟩])
 (.seq (.reg [⟨.no,.mv (.t P6_12),some P6_51⟩,
 ⟨.no,.ne .int (.t P6_51) (.c (.int .i64 (.ofNat 0))),some P6_52⟩])
 (.cond (.t P6_52) (.seq (.reg [⟨.no,.mv (.t P6_12),some P6_53⟩,
 ⟨.no,.mv (.t P6_53),some P6_2⟩])
 .ret)
 .skip)))
 (.seq (.reg [⟨.no,.mv (.t P6_0),some P6_54⟩,
 ⟨.no,.mv (.t P6_3),some P6_55⟩,
 ⟨.no,.call (.c (.fn f_txn_Manager_Commit [] [])) [(.t P6_54),(.t P6_55)],some P6_56⟩,
 ⟨.no,.mv (.t P6_56),some P6_2⟩])
 .ret))))))), [.t P6_2], 0, false, false⟩
noncomputable def rf_slices_ContainsFunc_api_Table : RFn := ⟨apOf 4 0 2, mkU 4, (.seq (.reg [⟨.no,.mv (.c (.bool false)),some P4_4⟩])
 (.seq (.reg [⟨.no,.mv (.t P4_0),some P4_5⟩,
 ⟨.no,.mv (.t P4_1),some P4_6⟩,
 ⟨.no,.call (.c (.fn f_slices_IndexFunc_api_Table [] [])) [(.t P4_5),(.t P4_6)],some P4_7⟩,
 ⟨.no,.bin .geq (.t P4_7) (.c (.int .i64 (.ofNat 0))),some P4_8⟩,
 ⟨.no,.mv (.t P4_8),some P4_4⟩])
 .ret)), [.t P4_4], 0, false, false⟩
noncomputable def rf_catalog_next : RFn := ⟨apOf 6 0 1, mkU 6, (.seq (.reg [⟨.no,.mv (.c (.int .i64 (.ofNat 0))),some P6_2⟩,
 ⟨.no,.mv (.c (.int .i64 (.ofNat 0))),some P6_3⟩])
 (.seq (.reg [⟨.no,.mv (.t P6_0),some P6_10⟩,
 ⟨.no,.call (.c (.fn f_catalog_rows [] [])) [(.t P6_10)],some P6_11⟩,
 ⟨.no,.mv (.t P6_11),some P6_9⟩,
 ⟨.no,.extr (.t P6_9) 0,some P6_12⟩,
 ⟨.no,.extr (.t P6_9) 1,some P6_13⟩,
 ⟨.no,.mv (.t P6_12),some P6_4⟩,
 ⟨.no,.mv (.t P6_13),some P6_5⟩])
 (.seq (.seq (.reg [⟨.no,.mv (.t P6_5),some P6_14⟩,
 ⟨.no,.ne .int (.t P6_14) (.c (.int .i64 (.ofNat 0))),some P6_15⟩])
 (.cond (.t P6_15) (.seq (.reg [⟨.no,.mv (.t P6_5),some P6_16⟩,
 ⟨.no,.mv (.c (.int .i64 (.ofNat 0))),some P6_2⟩,
 ⟨.no,.mv (.t P6_16),some P6_3⟩])
 .ret)
 .skip))
 (.seq (.reg [⟨.no,.mv (.c (.int .i64 (.ofNat 0))),some P6_6⟩])
 (.seq (.seq (.reg [⟨.no,.mv (.t P6_4),some P6_17⟩,
 ⟨.no,.len .sl (.t P6_17),some P6_18⟩,
 ⟨.no,.mv (.c (.int .i64 (.ofNat 0))),some P6_19⟩])
 (.block 0 (.loop (.seq (.reg [⟨.no,.bin .lss (.t P6_19) (.t P6_18),some P6_20⟩])
 (.seq (.cond (.t P6_20) .skip
 (.exit 0))
 (.seq (.block 1 (.seq (.reg [⟨.no,.ixSl 6 (.t P6_17) (.t P6_19),some P6_21⟩,
 ⟨.no,.load true 6 (.t P6_21),some P6_22⟩,
 ⟨.no,.alloc [(.int .u32 (.ofNat 0)),(.int .i64 (.ofNat 0)),(.str []),(.int .i64 (.ofNat 0)),(.int .i64 (.ofNat 0)),(.int .i64 (.ofNat 0))],some P6_8⟩,
 ⟨.no,.store 6 (.t P6_8) (.t P6_22),none⟩])
 (.reg [⟨.no,.mv (.t P6_6),some P6_23⟩,
 ⟨.no,.faddr 3 3 (.t P6_8),some P6_24⟩,
 ⟨.no,.ixArr 3 1 (.t P6_24) (.c (.int .i64 (.ofNat 0))),some P6_25⟩,
 ⟨.no,.load false 1 (.t P6_25),some P6_26⟩,
 ⟨.no,.max (.t P6_23) (.t P6_26),some P6_27⟩,
 ⟨.no,.mv (.t P6_27),some P6_6⟩])))
 (.reg [⟨.no,.bin .add (.t P6_19) (.c (.int .i64 (.ofNat 1))),some P6_28⟩,
 ⟨.no,.mv (.t P6_28),some P6_19⟩])))))))
 (.seq (.seq (.reg [⟨.no,.mv (.t P6_6),some P6_29⟩,
 ⟨.no,.bin .add (.t P6_29) (.c (.int .i64 (.ofNat 1))),some P6_30⟩,
 ⟨.no,.bin .geq (.t P6_30) (.c (.int .i64 (.ofNat 32768))),some P6_31⟩])
 (.cond (.t P6_31) (.seq (.reg [⟨.no,.mv (.c (.int .i64 (.ofNat 0))),some P6_2⟩,
 ⟨.no,.mv (.c (.int .i64 (.ofNat 3))),some P6_3⟩])
 .ret)
 .skip))
 (.seq (.reg [⟨.no,.mv (.t P6_6),some P6_32⟩,
 ⟨.no,.bin .add (.t P6_32) (.c (.int .i64 (.ofNat 1))),some P6_33⟩,
 ⟨.no,.mv (.t P6_33),some P6_2⟩,
 ⟨.no,.mv (.c (.int .i64 (.ofNat 0))),some P6_3⟩])
 .ret))))))), [.t P6_2,.t P6_3], 0, false, false⟩
noncomputable def rf_heap_Create : RFn := ⟨apOf 5 0 2, mkU 5, (.seq (.reg [⟨.no,.mv (.c (.int .u32 (.ofNat 0))),some P5_4⟩,
 ⟨.no,.mv (.c (.int .i64 (.ofNat 0))),some P5_5⟩])
 (.seq (.reg [⟨.no,.mv (.t P5_0),some P5_9⟩,
 ⟨.no,.mv (.t P5_1),some P5_10⟩,
 ⟨.no,.call (.c (.fn f_heap_Allocate [] [])) [(.t P5_9),(.t P5_10)],some P5_11⟩,
 ⟨.no,.mv (.t P5_11),some P5_8⟩,
 ⟨.no,.extr (.t P5_8) 0,some P5_12⟩,
 ⟨.no,.extr (.t P5_8) 1,some P5_13⟩,
 ⟨.no,.mv (.t P5_12),some P5_6⟩,
 ⟨.no,.mv (.t P5_13),some P5_7⟩])
 (.seq (.seq (.reg [⟨.no,.mv (.t P5_7),some P5_14⟩,
 ⟨.no,.ne .int (.t P5_14) (.c (.int .i64 (.ofNat 0))),some P5_15⟩])
 (.cond (.t P5_15) (.seq (.reg [⟨.no,.mv (.t P5_7),some P5_16⟩,
 ⟨.no,.mv (.c (.int .u32 (.ofNat 0))),some P5_4⟩,
 ⟨.no,.mv (.t P5_16),some P5_5⟩])
 .ret)
 .skip))
 (.seq (.reg [⟨.no,.mv (.t P5_0),some P5_18⟩,
 ⟨.no,.mv (.t P5_1),some P5_19⟩,
 ⟨.no,.mv (.t P5_6),some P5_20⟩,
 ⟨.no,.call (.c (.fn f_heap_Format [] [])) [],some P5_21⟩,
 ⟨.no,.build [(.int .u32 (.ofNat 0)),(.int .i64 (.ofNat 0)),(.int .i64 (.ofNat 0)),(.str []),(.str []),(.int .i64 (.ofNat 0)),(.int .i64 (.ofNat 0)),(.str []),(.int .u32 (.ofNat 0)),(.int .i64 (.ofNat 0)),(.bool false)] [(0,1,(.t P5_20)),(1,4,(.t P5_21)),(5,1,(.c (.int .i64 (.ofNat 1))))],some P5_22⟩,
 ⟨.no,.call (.c (.fn f_txn_Manager_Log [] [])) [(.t P5_18),(.t P5_19),(.t P5_22)],some P5_23⟩,
 ⟨.no,.mv (.t P5_23),some P5_17⟩,
 ⟨.no,.extr (.t P5_17) 0,some P5_24⟩,
 ⟨.no,.extr (.t P5_17) 1,some P5_25⟩,
 ⟨.no,.mv (.t P5_25),some P5_7⟩])
 (.seq (.seq (.reg [⟨.no,.mv (.t P5_7),some P5_26⟩,
 ⟨.no,.ne .int (.t P5_26) (.c (.int .i64 (.ofNat 0))),some P5_27⟩])
 (.cond (.t P5_27) (.seq (.reg [⟨.no,.mv (.t P5_7),some P5_28⟩,
 ⟨.no,.mv (.c (.int .u32 (.ofNat 0))),some P5_4⟩,
 ⟨.no,.mv (.t P5_28),some P5_5⟩])
 .ret)
 .skip))
 (.seq (.reg [⟨.no,.mv (.t P5_6),some P5_29⟩,
 ⟨.no,.mv (.t P5_29),some P5_4⟩,
 ⟨.no,.mv (.c (.int .i64 (.ofNat 0))),some P5_5⟩])
 .ret)))))), [.t P5_4,.t P5_5], 0, false, false⟩
noncomputable def rf_catalog_put : RFn := ⟨apOf 7 0 4, mkU 7, (.seq (.reg [⟨.no,.box (.t P7_3),some P7_7⟩,
 ⟨.no,.mv (.c (.int .i64 (.ofNat 0))),some P7_8⟩])
 (.seq (.reg [⟨.no,.mv (.t P7_2),some P7_15⟩,
 ⟨.no,.build [(.int .i64 (.ofNat 0)),(.int .i64 (.ofNat 0)),(.str [])] [(0,1,(.c (.int .i64 (.ofNat 2)))),(2,1,(.t P7_15))],some P7_16⟩,
 ⟨.no,.ixArr 3 1 (.t P7_7) (.c (.int .i64 (.ofNat 0))),some P7_17⟩,
 ⟨.no,.load false 1 (.t P7_17),some P7_18⟩,
 ⟨.no,.build [(.int .i64 (.ofNat 0)),(.int .i64 (.ofNat 0)),(.str [])] [(0,1,(.c (.int .i64 (.ofNat 1)))),(1,1,(.t P7_18))],some P7_19⟩,
 ⟨.no,.ixArr 3 1 (.t P7_7) (.c (.int .i64 (.ofNat 1))),some P7_20⟩,
 ⟨.no,.load false 1 (.t P7_20),some P7_21⟩,
 ⟨.no,.build [(.int .i64 (.ofNat 0)),(.int .i64 (.ofNat 0)),(.str [])] [(0,1,(.c (.int .i64 (.ofNat 1)))),(1,1,(.t P7_21))],some P7_22⟩,
 ⟨.no,.ixArr 3 1 (.t P7_7) (.c (.int .i64 (.ofNat 2))),some P7_23⟩,
 ⟨.no,.load false 1 (.t P7_23),some P7_24⟩,
 ⟨.no,.build [(.int .i64 (.ofNat 0)),(.int .i64 (.ofNat 0)),(.str [])] [(0,1,(.c (.int .i64 (.ofNat 1)))),(1,1,(.t P7_24))],some P7_25⟩,
 ⟨.no,.buildSl 4 [(.int .i64 (.ofNat 0)),(.int .i64 (.ofNat 0)),(.str [])] [(0,3,(.t P7_16)),(3,3,(.t P7_19)),(6,3,(.t P7_22)),(9,3,(.t P7_25))],some P7_26⟩,
 ⟨.no,.call (.c (.fn f_key_Row [] [])) [(.t P7_26)],some P7_27⟩,
 ⟨.no,.mv (.t P7_27),some P7_14⟩,
 ⟨.no,.extr (.t P7_14) 0,some P7_28⟩,
 ⟨.no,.extr (.t P7_14) 1,some P7_29⟩,
 ⟨.no,.mv (.t P7_28),some P7_9⟩,
 ⟨.no,.mv (.t P7_29),some P7_10⟩])
 (.seq (.seq (.reg [⟨.no,.mv (.t P7_10),some P7_30⟩,
 ⟨.no,.ne .int (.t P7_30) (.c (.int .i64 (.ofNat 0))),some P7_31⟩])
 (.cond (.t P7_31) (.seq (.reg [⟨.no,.mv (.t P7_10),some P7_32⟩,
 ⟨.no,.mv (.t P7_32),some P7_8⟩])
 .ret)
 .skip))
 (.seq (.reg [⟨.no,.mv (.c (.fn f_catalog_put_c1 [] [])),some P7_11⟩])
 (.seq (.reg [⟨.no,.mv (.t P7_0),some P7_34⟩,
 ⟨.no,.mv (.t P7_11),some P7_35⟩,
 ⟨.no,.call (.c (.fn f_heap_Place [] [])) [(.t P7_34),(.c (.int .u32 (.ofNat 2))),(.t P7_35)],some P7_36⟩,
 ⟨.no,.mv (.t P7_36),some P7_33⟩,
 ⟨.no,.extr (.t P7_33) 0,some P7_37⟩,
 ⟨.no,.extr (.t P7_33) 1,some P7_38⟩,
 ⟨.no,.extr (.t P7_33) 2,some P7_39⟩,
 ⟨.no,.alloc [(.int .u32 (.ofNat 0)),(.int .i64 (.ofNat 0))],some P7_12⟩,
 ⟨.no,.store 2 (.t P7_12) (.t P7_37),none⟩,
 ⟨.no,.mv (.t P7_38),some P7_13⟩,
 ⟨.no,.mv (.t P7_39),some P7_10⟩])
 (.seq (.seq (.reg [⟨.no,.mv (.t P7_10),some P7_40⟩,
 ⟨.no,.eq .int (.t P7_40) (.c (.int .i64 (.ofNat 0))),some P7_41⟩,
 ⟨.no,.mv (.t P7_41),some P7_42⟩,
 ⟨(.on P7_42 true),.mv (.t P7_13),some P7_43⟩,
 ⟨(.on P7_42 true),.un .not (.t P7_43),some P7_44⟩,
 ⟨.no,.pick (.t P7_42) (.t P7_44) (.c (.bool false)),some P7_45⟩])
 (.cond (.t P7_45) (.seq (.reg [⟨.no,.mv (.t P7_0),some P7_46⟩,
 ⟨.no,.mv (.t P7_1),some P7_47⟩,
 ⟨.no,.call (.c (.fn f_heap_Extend [] [])) [(.t P7_46),(.t P7_47),(.c (.int .u32 (.ofNat 2)))],some P7_48⟩,
 ⟨.no,.mv (.t P7_48),some P7_10⟩])
 (.seq (.reg [⟨.no,.mv (.t P7_10),some P7_49⟩,
 ⟨.no,.eq .int (.t P7_49) (.c (.int .i64 (.ofNat 0))),some P7_50⟩])
 (.cond (.t P7_50) (.reg [⟨.no,.mv (.t P7_0),some P7_52⟩,
 ⟨.no,.mv (.t P7_11),some P7_53⟩,
 ⟨.no,.call (.c (.fn f_heap_Place [] [])) [(.t P7_52),(.c (.int .u32 (.ofNat 2))),(.t P7_53)],some P7_54⟩,
 ⟨.no,.mv (.t P7_54),some P7_51⟩,
 ⟨.no,.extr (.t P7_51) 0,some P7_55⟩,
 ⟨.no,.extr (.t P7_51) 1,some P7_56⟩,
 ⟨.no,.extr (.t P7_51) 2,some P7_57⟩,
 ⟨.no,.store 2 (.t P7_12) (.t P7_55),none⟩,
 ⟨.no,.mv (.t P7_57),some P7_10⟩])
 .skip)))
 .skip))
 (.seq (.seq (.reg [⟨.no,.mv (.t P7_10),some P7_58⟩,
 ⟨.no,.ne .int (.t P7_58) (.c (.int .i64 (.ofNat 0))),some P7_59⟩])
 (.cond (.t P7_59) (.seq (.reg [⟨.no,.mv (.t P7_10),some P7_60⟩,
 ⟨.no,.mv (.t P7_60),some P7_8⟩])
 .ret)
 .skip))
 (.seq (.reg [⟨.no,.mv (.t P7_0),some P7_61⟩,
 ⟨.no,.mv (.t P7_1),some P7_62⟩,
 ⟨.no,.load true 2 (.t P7_12),some P7_63⟩,
 ⟨.no,.mv (.t P7_9),some P7_64⟩,
 ⟨.no,.call (.c (.fn f_heap_Put [] [])) [(.t P7_61),(.t P7_62),(.t P7_63),(.t P7_64)],some P7_65⟩,
 ⟨.no,.mv (.t P7_65),some P7_8⟩])
 .ret)))))))), [.t P7_8], 0, false, false⟩
noncomputable def rf_wal_taken : RFn := ⟨apOf 6 0 2, mkU 6, (.seq (.reg [⟨.no,.mv (.c (.str [])),some P6_4⟩,
 ⟨.no,.mv (.c (.bool false)),some P6_5⟩])
 (.seq (.reg [⟨.no,.mv (.t P6_0),some P6_11⟩,
 ⟨.no,.mv (.t P6_1),some P6_12⟩,
 ⟨.no,.bin .sub (.t P6_12) (.c (.int .u64 (.ofNat 1))),some P6_13⟩,
 ⟨.no,.sliceS (.t P6_11) (some (.t P6_13)) none,some P6_14⟩,
 ⟨.no,.mv (.t P6_14),some P6_0⟩])
 (.seq (.reg [⟨.no,.mv (.t P6_0),some P6_16⟩,
 ⟨.no,.call (.c (.fn f_raw_Get [] [])) [(.t P6_16),(.c (.int .i64 (.ofNat 0))),(.c (.int .i64 (.ofNat 4)))],some P6_17⟩,
 ⟨.no,.mv (.t P6_17),some P6_15⟩,
 ⟨.no,.extr (.t P6_15) 0,some P6_18⟩,
 ⟨.no,.extr (.t P6_15) 1,some P6_19⟩,
 ⟨.no,.mv (.t P6_18),some P6_6⟩,
 ⟨.no,.mv (.t P6_19),some P6_7⟩])
 (.seq (.seq (.reg [⟨.no,.mv (.t P6_7),some P6_20⟩,
 ⟨.no,.ne .int (.t P6_20) (.c (.int .i64 (.ofNat 0))),some P6_21⟩,
 ⟨.no,.mv (.t P6_21),some P6_22⟩,
 ⟨(.on P6_22 false),.mv (.t P6_6),some P6_23⟩,
 ⟨(.on P6_22 false),.bin .lss (.t P6_23) (.c (.int .u64 (.ofNat 1))),some P6_24⟩,
 ⟨.no,.pick (.t P6_22) (.c (.bool true)) (.t P6_24),some P6_25⟩,
 ⟨.no,.mv (.t P6_25),some P6_26⟩,
 ⟨(.on P6_26 false),.mv (.t P6_6),some P6_27⟩,
 ⟨(.on P6_26 false),.bin .gtr (.t P6_27) (.c (.int .u64 (.ofNat 8192))),some P6_28⟩,
 ⟨.no,.pick (.t P6_26) (.c (.bool true)) (.t P6_28),some P6_29⟩,
 ⟨.no,.mv (.t P6_29),some P6_30⟩,
 ⟨(.on P6_30 false),.mv (.t P6_0),some P6_31⟩,
 ⟨(.on P6_30 false),.len .str (.t P6_31),some P6_32⟩,
 ⟨(.on P6_30 false),.mv (.t P6_6),some P6_33⟩,
 ⟨(.on P6_30 false),.conv (.toInt .i64) (.t P6_33),some P6_34⟩,
 ⟨(.on P6_30 false),.bin .add (.t P6_34) (.c (.int .i64 (.ofNat 12))),some P6_35⟩,
 ⟨(.on P6_30 false),.bin .lss (.t P6_32) (.t P6_35),some P6_36⟩,
 ⟨.no,.pick (.t P6_30) (.c (.bool true)) (.t P6_36),some P6_37⟩])
 (.cond (.t P6_37) (.seq (.reg [⟨.no,.mv (.c (.str [])),some P6_4⟩,
 ⟨.no,.mv (.c (.bool false)),some P6_5⟩])
 .ret)
 .skip))
 (.seq (.reg [⟨.no,.mv (.t P6_0),some P6_38⟩,
 ⟨.no,.mv (.t P6_6),some P6_39⟩,
 ⟨.no,.conv (.toInt .i64) (.t P6_39),some P6_40⟩,
 ⟨.no,.bin .add (.c (.int .i64 (.ofNat 8))) (.t P6_40),some P6_41⟩,
 ⟨.no,.sliceS (.t P6_38) (some (.c (.int .i64 (.ofNat 8)))) (some (.t P6_41)),some P6_42⟩,
 ⟨.no,.mv (.t P6_42),some P6_8⟩])
 (.seq (.reg [⟨.no,.mv (.t P6_1),some P6_44⟩,
 ⟨.no,.mv (.t P6_8),some P6_45⟩,
 ⟨.no,.call (.c (.fn f_wal_Frame [] [])) [(.t P6_44),(.t P6_45)],some P6_46⟩,
 ⟨.no,.mv (.t P6_46),some P6_43⟩,
 ⟨.no,.extr (.t P6_43) 0,some P6_47⟩,
 ⟨.no,.extr (.t P6_43) 1,some P6_48⟩,
 ⟨.no,.mv (.t P6_47),some P6_9⟩,
 ⟨.no,.mv (.t P6_48),some P6_10⟩])
 (.seq (.draw [] 10 [⟨⟨.no,.mv (.t P6_8),some P6_49⟩,.val,0,0⟩,
 ⟨⟨.no,.mv (.t P6_0),some P6_50⟩,.val,0,0⟩,
 ⟨⟨.no,.mv (.t P6_9),some P6_51⟩,.val,0,0⟩,
 ⟨⟨.no,.len .str (.t P6_51),some P6_52⟩,.read,0,0⟩,
 ⟨⟨.no,.sliceS (.t P6_50) none (some (.t P6_52)),some P6_53⟩,.val,0,0⟩,
 ⟨⟨.no,.mv (.t P6_9),some P6_54⟩,.val,0,0⟩,
 ⟨⟨.no,.eq .str (.t P6_53) (.t P6_54),some P6_55⟩,.val,0,0⟩,
 ⟨⟨.no,.mv (.t P6_49),some P6_4⟩,.val,0,0⟩,
 ⟨⟨.no,.mv (.t P6_55),some P6_5⟩,.val,0,0⟩])
 .ret))))))), [.t P6_4,.t P6_5], 0, false, false⟩
noncomputable def rf_disk_Disk_Mark : RFn := ⟨apOf 6 0 1, mkU 6, (.seq (.reg [⟨.no,.mv (.c (.int .u64 (.ofNat 0))),some P6_2⟩,
 ⟨.no,.mv (.c (.int .i64 (.ofNat 0))),some P6_3⟩])
 (.seq (.seq (.reg [⟨.no,.mv (.t P6_0),some P6_5⟩,
 ⟨.no,.call (.c (.fn f_disk_Disk_Dead [] [])) [(.t P6_5)],some P6_6⟩])
 (.cond (.t P6_6) (.seq (.reg [⟨.no,.mv (.c (.int .u64 (.ofNat 0))),some P6_2⟩,
 ⟨.no,.mv (.c (.int .i64 (.ofNat 7))),some P6_3⟩])
 .ret)
 .skip))
 (.seq (.seq (.reg [⟨.no,.mv (.t P6_0),some P6_7⟩,
 ⟨.no,.nilc (.t P6_7),some P6_8⟩,
 ⟨.no,.faddr 3 1 (.t P6_8),some P6_9⟩,
 ⟨.no,.load false 1 (.t P6_9),some P6_10⟩,
 ⟨.no,.len .sl (.t P6_10),some P6_11⟩,
 ⟨.no,.bin .sub (.t P6_11) (.c (.int .i64 (.ofNat 1))),some P6_12⟩,
 ⟨.no,.mv (.t P6_12),some P6_4⟩])
 (.block 0 (.loop (.seq (.seq (.reg [⟨.no,.mv (.t P6_4),some P6_13⟩,
 ⟨.no,.bin .geq (.t P6_13) (.c (.int .i64 (.ofNat 0))),some P6_14⟩])
 (.cond (.t P6_14) .skip
 (.exit 0)))
 (.seq (.block 1 (.seq (.reg [⟨.no,.mv (.t P6_0),some P6_17⟩,
 ⟨.no,.nilc (.t P6_17),some P6_18⟩,
 ⟨.no,.faddr 3 1 (.t P6_18),some P6_19⟩,
 ⟨.no,.load false 1 (.t P6_19),some P6_20⟩,
 ⟨.no,.mv (.t P6_4),some P6_21⟩,
 ⟨.no,.ixSl 3 (.t P6_20) (.t P6_21),some P6_22⟩,
 ⟨.no,.faddr 0 1 (.t P6_22),some P6_23⟩,
 ⟨.no,.load false 1 (.t P6_23),some P6_24⟩,
 ⟨.no,.eq .int (.t P6_24) (.c (.int .u32 (.ofNat 0))),some P6_25⟩])
 (.cond (.t P6_25) (.seq (.reg [⟨.no,.mv (.t P6_0),some P6_26⟩,
 ⟨.no,.nilc (.t P6_26),some P6_27⟩,
 ⟨.no,.faddr 3 1 (.t P6_27),some P6_28⟩,
 ⟨.no,.load false 1 (.t P6_28),some P6_29⟩,
 ⟨.no,.mv (.t P6_4),some P6_30⟩,
 ⟨.no,.ixSl 3 (.t P6_29) (.t P6_30),some P6_31⟩,
 ⟨.no,.faddr 2 1 (.t P6_31),some P6_32⟩,
 ⟨.no,.load false 1 (.t P6_32),some P6_33⟩,
 ⟨.no,.mv (.t P6_33),some P6_2⟩,
 ⟨.no,.mv (.c (.int .i64 (.ofNat 0))),some P6_3⟩])
 .ret)
 .skip)))
 (.reg [⟨.no,.mv (.t P6_4),some P6_15⟩,
 ⟨.no,.bin .sub (.t P6_15) (.c (.int .i64 (.ofNat 1))),some P6_16⟩,
 ⟨.no,.mv (.t P6_16),some P6_4⟩]))))))
 (.seq (.reg [⟨.no,.mv (.t P6_0),some P6_34⟩,
 ⟨.no,.nilc (.t P6_34),some P6_35⟩,
 ⟨.no,.faddr 2 1 (.t P6_35),some P6_36⟩,
 ⟨.no,.load false 1 (.t P6_36),some P6_37⟩,
 ⟨.no,.mv (.t P6_37),some P6_2⟩,
 ⟨.no,.mv (.c (.int .i64 (.ofNat 0))),some P6_3⟩])
 .ret)))), [.t P6_2,.t P6_3], 0, false, false⟩
noncomputable def rf_space_Fresh : RFn := ⟨apOf 6 0 1, mkU 6, (.seq (.reg [⟨.no,.mv (.c (.sl 0 [] .nil)),some P6_2⟩,
 ⟨.no,.mv (.c (.int .i64 (.ofNat 0))),some P6_3⟩])
 (.seq (.seq (.reg [⟨.no,.mv (.t P6_0),some P6_6⟩,
 ⟨.no,.bin .lss (.t P6_6) (.c (.int .i64 (.ofNat 1))),some P6_7⟩,
 ⟨.no,.mv (.t P6_7),some P6_8⟩,
 ⟨(.on P6_8 false),.mv (.t P6_0),some P6_9⟩,
 ⟨(.on P6_8 false),.bin .gtr (.t P6_9) (.c (.int .i64 (.ofNat 2048))),some P6_10⟩,
 ⟨.no,.pick (.t P6_8) (.c (.bool true)) (.t P6_10),some P6_11⟩])
 (.cond (.t P6_11) (.seq (.reg [⟨.no,.mv (.c (.sl 0 [] .nil)),some P6_2⟩,
 ⟨.no,.mv (.c (.int .i64 (.ofNat 1))),some P6_3⟩])
 .ret)
 .skip))
 (.seq (.reg [⟨.no,.call (.c (.fn f_strings_Repeat [] [])) [(.c (.str [0])),(.c (.int .i64 (.ofNat 256)))],some P6_12⟩,
 ⟨.no,.convO .toBytes (.t P6_12),some P6_13⟩,
 ⟨.no,.mv (.t P6_13),some P6_4⟩])
 (.seq (.seq (.reg [⟨.no,.mv (.t P6_0),some P6_14⟩,
 ⟨.no,.mv (.c (.int .i64 (.ofNat 0))),some P6_15⟩])
 (.block 0 (.loop (.seq (.reg [⟨.no,.bin .lss (.t P6_15) (.t P6_14),some P6_16⟩])
 (.seq (.cond (.t P6_16) .skip
 (.exit 0))
 (.seq (.block 1 (.seq (.reg [⟨.no,.mv (.t P6_15),some P6_17⟩,
 ⟨.no,.mv (.t P6_17),some P6_5⟩])
 (.draw [] 12 [⟨⟨.no,.mv (.t P6_4),some P6_18⟩,.val,0,0⟩,
 ⟨⟨.no,.mv (.t P6_5),some P6_19⟩,.val,0,0⟩,
 ⟨⟨.no,.bin .quo (.t P6_19) (.c (.int .i64 (.ofNat 8))),some P6_20⟩,.val,0,0⟩,
 ⟨⟨.no,.ixSl 1 (.t P6_18) (.t P6_20),some P6_21⟩,.val,0,0⟩,
 ⟨⟨.no,.load false 1 (.t P6_21),some P6_22⟩,.read,0,0⟩,
 ⟨⟨.no,.mv (.t P6_5),some P6_23⟩,.val,0,0⟩,
 ⟨⟨.no,.bin .rem (.t P6_23) (.c (.int .i64 (.ofNat 8))),some P6_24⟩,.val,0,0⟩,
 ⟨⟨.no,.bin .shl (.c (.int .u8 (.ofNat 1))) (.t P6_24),some P6_25⟩,.val,0,0⟩,
 ⟨⟨.no,.bin .or (.t P6_22) (.t P6_25),some P6_26⟩,.val,0,0⟩,
 ⟨⟨.no,.ixSl 1 (.t P6_18) (.t P6_20),some P6_27⟩,.val,0,0⟩,
 ⟨⟨.no,.store 1 (.t P6_27) (.t P6_26),none⟩,.eff,0,1⟩])))
 (.reg [⟨.no,.bin .add (.t P6_15) (.c (.int .i64 (.ofNat 1))),some P6_28⟩,
 ⟨.no,.mv (.t P6_28),some P6_15⟩])))))))
 (.seq (.reg [⟨.no,.build [(.int .i64 (.ofNat 0)),(.int .i64 (.ofNat 0)),(.str []),(.str [])] [(0,1,(.c (.int .i64 (.ofNat 1)))),(1,1,(.c (.int .i64 (.ofNat 1))))],some P6_29⟩,
 ⟨.no,.mv (.t P6_4),some P6_30⟩,
 ⟨.no,.convO .toStr (.t P6_30),some P6_31⟩,
 ⟨.no,.build [(.int .i64 (.ofNat 0)),(.int .i64 (.ofNat 0)),(.str []),(.str [])] [(0,1,(.c (.int .i64 (.ofNat 2)))),(2,1,(.t P6_31))],some P6_32⟩,
 ⟨.no,.buildSl 2 [(.int .i64 (.ofNat 0)),(.int .i64 (.ofNat 0)),(.str []),(.str [])] [(0,4,(.t P6_29)),(4,4,(.t P6_32))],some P6_33⟩,
 ⟨.no,.mv (.t P6_33),some P6_2⟩,
 ⟨.no,.mv (.c (.int .i64 (.ofNat 0))),some P6_3⟩])
 .ret))))), [.t P6_2,.t P6_3], 0, true, false⟩
noncomputable def rf_smo_changer_allocate : RFn := ⟨apOf 5 0 1, mkU 5, (.seq (.reg [⟨.no,.mv (.c (.int .u32 (.ofNat 0))),some P5_2⟩])
 (.seq (.seq (.reg [⟨.no,.mv (.t P5_0),some P5_4⟩,
 ⟨.no,.nilc (.t P5_4),some P5_5⟩,
 ⟨.no,.faddr 3 1 (.t P5_5),some P5_6⟩,
 ⟨.no,.load false 1 (.t P5_6),some P5_7⟩,
 ⟨.no,.ne .int (.t P5_7) (.c (.int .i64 (.ofNat 0))),some P5_8⟩])
 (.cond (.t P5_8) (.seq (.reg [⟨.no,.mv (.c (.int .u32 (.ofNat 0))),some P5_2⟩])
 .ret)
 .skip))
 (.seq (.reg [⟨.no,.mv (.c (.int .u32 (.ofNat 0))),some P5_3⟩])
 (.seq (.draw [] 18 [⟨⟨.no,.mv (.t P5_0),some P5_10⟩,.val,0,1⟩,
 ⟨⟨.no,.mv (.t P5_0),some P5_11⟩,.val,0,0⟩,
 ⟨⟨.no,.nilc (.t P5_11),some P5_12⟩,.val,0,0⟩,
 ⟨⟨.no,.faddr 0 1 (.t P5_12),some P5_13⟩,.val,0,0⟩,
 ⟨⟨.no,.load false 1 (.t P5_13),some P5_14⟩,.read,0,0⟩,
 ⟨⟨.no,.mv (.t P5_0),some P5_15⟩,.val,0,0⟩,
 ⟨⟨.no,.nilc (.t P5_15),some P5_16⟩,.val,0,0⟩,
 ⟨⟨.no,.faddr 1 1 (.t P5_16),some P5_17⟩,.val,0,0⟩,
 ⟨⟨.no,.load false 1 (.t P5_17),some P5_18⟩,.read,0,0⟩,
 ⟨⟨.no,.call (.c (.fn f_heap_Allocate [] [])) [(.t P5_14),(.t P5_18)],some P5_19⟩,.eff,0,1⟩,
 ⟨⟨.no,.mv (.t P5_19),some P5_9⟩,.val,1,1⟩,
 ⟨⟨.no,.extr (.t P5_9) 0,some P5_20⟩,.val,1,1⟩,
 ⟨⟨.no,.extr (.t P5_9) 1,some P5_21⟩,.val,1,1⟩,
 ⟨⟨.no,.mv (.t P5_20),some P5_3⟩,.val,1,1⟩,
 ⟨⟨.no,.nilc (.t P5_10),some P5_22⟩,.val,1,1⟩,
 ⟨⟨.no,.faddr 3 1 (.t P5_22),some P5_23⟩,.val,1,1⟩,
 ⟨⟨.no,.store 1 (.t P5_23) (.t P5_21),none⟩,.eff,1,2⟩])
 (.seq (.reg [⟨.no,.mv (.t P5_3),some P5_24⟩,
 ⟨.no,.mv (.t P5_24),some P5_2⟩])
 .ret))))), [.t P5_2], 0, false, false⟩
noncomputable def rf_smo_changer_do : RFn := ⟨apOf 5 0 3, mkU 5, (.seq (.reg [⟨.no,.box (.t P5_2),some P5_5⟩])
 (.seq (.reg [⟨.no,.mv (.t P5_0),some P5_6⟩,
 ⟨.no,.nilc (.t P5_6),some P5_7⟩,
 ⟨.no,.faddr 3 1 (.t P5_7),some P5_8⟩,
 ⟨.no,.load false 1 (.t P5_8),some P5_9⟩,
 ⟨.no,.eq .int (.t P5_9) (.c (.int .i64 (.ofNat 0))),some P5_10⟩])
 (.cond (.t P5_10) (.draw [] 20 [⟨⟨.no,.mv (.t P5_0),some P5_12⟩,.val,0,1⟩,
 ⟨⟨.no,.mv (.t P5_0),some P5_13⟩,.val,0,0⟩,
 ⟨⟨.no,.nilc (.t P5_13),some P5_14⟩,.val,0,0⟩,
 ⟨⟨.no,.faddr 0 1 (.t P5_14),some P5_15⟩,.val,0,0⟩,
 ⟨⟨.no,.load false 1 (.t P5_15),some P5_16⟩,.read,0,0⟩,
 ⟨⟨.no,.mv (.t P5_0),some P5_17⟩,.val,0,0⟩,
 ⟨⟨.no,.nilc (.t P5_17),some P5_18⟩,.val,0,0⟩,
 ⟨⟨.no,.faddr 1 1 (.t P5_18),some P5_19⟩,.val,0,0⟩,
 ⟨⟨.no,.load false 1 (.t P5_19),some P5_20⟩,.read,0,0⟩,
 ⟨⟨.no,.mv (.t P5_1),some P5_21⟩,.val,0,0⟩,
 ⟨⟨.no,.load true 4 (.t P5_5),some P5_22⟩,.read,0,0⟩,
 ⟨⟨.no,.build [(.int .u32 (.ofNat 0)),(.int .i64 (.ofNat 0)),(.int .i64 (.ofNat 0)),(.str []),(.str []),(.int .i64 (.ofNat 0)),(.int .i64 (.ofNat 0)),(.str []),(.int .u32 (.ofNat 0)),(.int .i64 (.ofNat 0)),(.bool false)] [(0,1,(.t P5_21)),(1,4,(.t P5_22)),(5,1,(.c (.int .i64 (.ofNat 1))))],some P5_23⟩,.val,0,0⟩,
 ⟨⟨.no,.call (.c (.fn f_txn_Manager_Log [] [])) [(.t P5_16),(.t P5_20),(.t P5_23)],some P5_24⟩,.eff,0,1⟩,
 ⟨⟨.no,.mv (.t P5_24),some P5_11⟩,.val,1,1⟩,
 ⟨⟨.no,.extr (.t P5_11) 0,some P5_25⟩,.val,1,1⟩,
 ⟨⟨.no,.extr (.t P5_11) 1,some P5_26⟩,.val,1,1⟩,
 ⟨⟨.no,.nilc (.t P5_12),some P5_27⟩,.val,1,1⟩,
 ⟨⟨.no,.faddr 3 1 (.t P5_27),some P5_28⟩,.val,1,1⟩,
 ⟨⟨.no,.store 1 (.t P5_28) (.t P5_26),none⟩,.eff,1,2⟩])
 .skip))), [], 0, false, false⟩
noncomputable def rf_node_FormatLeaf : RFn := ⟨apOf 3 0 1, mkU 3, (.seq (.reg [⟨.no,.alloc [(.int .i64 (.ofNat 0)),(.int .i64 (.ofNat 0)),(.str []),(.str [])],some P3_2⟩])
 (.seq (.reg [⟨.no,.mv (.t P3_0),some P3_3⟩,
 ⟨.no,.conv (.toInt .u64) (.t P3_3),some P3_4⟩,
 ⟨.no,.call (.c (.fn f_raw_Put [] [])) [(.t P3_4),(.c (.int .i64 (.ofNat 4)))],some P3_5⟩,
 ⟨.no,.build [(.int .i64 (.ofNat 0)),(.int .i64 (.ofNat 0)),(.str []),(.str [])] [(0,1,(.c (.int .i64 (.ofNat 1)))),(1,1,(.c (.int .i64 (.ofNat 3)))),(2,1,(.t P3_5))],some P3_6⟩,
 ⟨.no,.store 4 (.t P3_2) (.t P3_6),none⟩])
 .ret)), [.cell true 4 P3_2], 0, false, false⟩
noncomputable def rf_pool_Pool_Get : RFn := ⟨apOf 7 0 2, mkU 7, (.seq (.reg [⟨.no,.alloc [(.int .u32 (.ofNat 0)),(.int .u64 (.ofNat 0)),(.int .i64 (.ofNat 0)),(.str []),(.sl 0 [] .nil)],some P7_4⟩,
 ⟨.no,.mv (.c (.int .i64 (.ofNat 0))),some P7_5⟩])
 (.seq (.seq (.reg [⟨.no,.mv (.t P7_0),some P7_11⟩,
 ⟨.no,.eq .ptr (.t P7_11) (.c .nilp),some P7_12⟩,
 ⟨.no,.mv (.t P7_12),some P7_13⟩,
 ⟨(.on P7_13 false),.mv (.t P7_1),some P7_14⟩,
 ⟨(.on P7_13 false),.bin .lss (.t P7_14) (.c (.int .u32 (.ofNat 1))),some P7_15⟩,
 ⟨.no,.pick (.t P7_13) (.c (.bool true)) (.t P7_15),some P7_16⟩,
 ⟨.no,.mv (.t P7_16),some P7_17⟩,
 ⟨(.on P7_17 false),.mv (.t P7_1),some P7_18⟩,
 ⟨(.on P7_17 false),.bin .gtr (.t P7_18) (.c (.int .u32 (.ofNat 2048))),some P7_19⟩,
 ⟨.no,.pick (.t P7_17) (.c (.bool true)) (.t P7_19),some P7_20⟩])
 (.cond (.t P7_20) (.seq (.reg [⟨.no,.build [(.int .u32 (.ofNat 0)),(.int .u64 (.ofNat 0)),(.int .i64 (.ofNat 0)),(.str []),(.sl 0 [] .nil)] [],some P7_21⟩,
 ⟨.no,.store 5 (.t P7_4) (.t P7_21),none⟩,
 ⟨.no,.mv (.c (.int .i64 (.ofNat 1))),some P7_5⟩])
 .ret)
 .skip))
 (.seq (.seq (.reg [⟨.no,.mv (.t P7_0),some P7_23⟩,
 ⟨.no,.nilc (.t P7_23),some P7_24⟩,
 ⟨.no,.faddr 3 1 (.t P7_24),some P7_25⟩,
 ⟨.no,.load false 1 (.t P7_25),some P7_26⟩,
 ⟨.no,.mv (.t P7_1),some P7_27⟩,
 ⟨.no,.look (.int .u32) (.agg [(.int .u32 (.ofNat 0)),(.int .u64 (.ofNat 0)),(.int .i64 (.ofNat 0)),(.str []),(.sl 0 [] .nil),(.int .u64 (.ofNat 0))]) (.t P7_26) (.t P7_27) true,some P7_28⟩,
 ⟨.no,.mv (.t P7_28),some P7_22⟩,
 ⟨.no,.extr (.t P7_22) 0,some P7_29⟩,
 ⟨.no,.extr (.t P7_22) 1,some P7_30⟩,
 ⟨.no,.alloc [(.int .u32 (.ofNat 0)),(.int .u64 (.ofNat 0)),(.int .i64 (.ofNat 0)),(.str []),(.sl 0 [] .nil),(.int .u64 (.ofNat 0))],some P7_6⟩,
 ⟨.no,.store 6 (.t P7_6) (.t P7_29),none⟩,
 ⟨.no,.mv (.t P7_30),some P7_7⟩])
 (.seq (.reg [⟨.no,.mv (.t P7_7),some P7_31⟩])
 (.cond (.t P7_31) (.seq (.reg [⟨.no,.faddr 0 5 (.t P7_6),some P7_32⟩,
 ⟨.no,.load true 5 (.t P7_32),some P7_33⟩,
 ⟨.no,.call (.c (.fn f_pool_copied [] [])) [(.t P7_33)],some P7_34⟩,
 ⟨.no,.store 5 (.t P7_4) (.t P7_34),none⟩,
 ⟨.no,.mv (.c (.int .i64 (.ofNat 0))),some P7_5⟩])
 .ret)
 .skip)))
 (.seq (.reg [⟨.no,.mv (.t P7_0),some P7_36⟩,
 ⟨.no,.mv (.t P7_1),some P7_37⟩,
 ⟨.no,.call (.c (.fn f_pool_Pool_fetched [] [])) [(.t P7_36),(.t P7_37)],some P7_38⟩,
 ⟨.no,.mv (.t P7_38),some P7_35⟩,
 ⟨.no,.extr (.t P7_35) 0,some P7_39⟩,
 ⟨.no,.extr (.t P7_35) 1,some P7_40⟩,
 ⟨.no,.alloc [(.int .u32 (.ofNat 0)),(.int .u64 (.ofNat 0)),(.int .i64 (.ofNat 0)),(.str []),(.sl 0 [] .nil)],some P7_8⟩,
 ⟨.no,.store 5 (.t P7_8) (.t P7_39),none⟩,
 ⟨.no,.mv (.t P7_40),some P7_9⟩])
 (.seq (.seq (.reg [⟨.no,.mv (.t P7_9),some P7_41⟩,
 ⟨.no,.ne .int (.t P7_41) (.c (.int .i64 (.ofNat 0))),some P7_42⟩])
 (.cond (.t P7_42) (.seq (.reg [⟨.no,.build [(.int .u32 (.ofNat 0)),(.int .u64 (.ofNat 0)),(.int .i64 (.ofNat 0)),(.str []),(.sl 0 [] .nil)] [],some P7_43⟩,
 ⟨.no,.mv (.t P7_9),some P7_44⟩,
 ⟨.no,.store 5 (.t P7_4) (.t P7_43),none⟩,
 ⟨.no,.mv (.t P7_44),some P7_5⟩])
 .ret)
 .skip))
 (.seq (.seq (.reg [⟨.no,.mv (.t P7_0),some P7_45⟩,
 ⟨.no,.call (.c (.fn f_pool_Pool_room [] [])) [(.t P7_45)],some P7_46⟩,
 ⟨.no,.mv (.t P7_46),some P7_10⟩])
 (.seq (.reg [⟨.no,.mv (.t P7_10),some P7_47⟩,
 ⟨.no,.ne .int (.t P7_47) (.c (.int .i64 (.ofNat 0))),some P7_48⟩])
 (.cond (.t P7_48) (.seq (.reg [⟨.no,.build [(.int .u32 (.ofNat 0)),(.int .u64 (.ofNat 0)),(.int .i64 (.ofNat 0)),(.str []),(.sl 0 [] .nil)] [],some P7_49⟩,
 ⟨.no,.mv (.t P7_10),some P7_50⟩,
 ⟨.no,.store 5 (.t P7_4) (.t P7_49),none⟩,
 ⟨.no,.mv (.t P7_50),some P7_5⟩])
 .ret)
 .skip)))
 (.seq (.reg [⟨.no,.mv (.t P7_0),some P7_51⟩,
 ⟨.no,.nilc (.t P7_51),some P7_52⟩,
 ⟨.no,.faddr 5 1 (.t P7_52),some P7_53⟩,
 ⟨.no,.load false 1 (.t P7_53),some P7_54⟩,
 ⟨.no,.bin .add (.t P7_54) (.c (.int .i64 (.ofNat 1))),some P7_55⟩,
 ⟨.no,.nilc (.t P7_51),some P7_56⟩,
 ⟨.no,.faddr 5 1 (.t P7_56),some P7_57⟩,
 ⟨.no,.store 1 (.t P7_57) (.t P7_55),none⟩])
 (.seq (.draw [] 9 [⟨⟨.no,.mv (.t P7_0),some P7_58⟩,.val,0,0⟩,
 ⟨⟨.no,.nilc (.t P7_58),some P7_59⟩,.val,0,0⟩,
 ⟨⟨.no,.faddr 3 1 (.t P7_59),some P7_60⟩,.val,0,0⟩,
 ⟨⟨.no,.load false 1 (.t P7_60),some P7_61⟩,.read,0,0⟩,
 ⟨⟨.no,.mv (.t P7_1),some P7_62⟩,.val,0,0⟩,
 ⟨⟨.no,.load true 5 (.t P7_8),some P7_63⟩,.read,0,0⟩,
 ⟨⟨.no,.build [(.int .u32 (.ofNat 0)),(.int .u64 (.ofNat 0)),(.int .i64 (.ofNat 0)),(.str []),(.sl 0 [] .nil),(.int .u64 (.ofNat 0))] [(0,5,(.t P7_63))],some P7_64⟩,.val,0,0⟩,
 ⟨⟨.no,.mput (.int .u32) (.t P7_61) (.t P7_62) (.t P7_64),none⟩,.eff,0,1⟩])
 (.seq (.reg [⟨.no,.load true 5 (.t P7_8),some P7_65⟩,
 ⟨.no,.call (.c (.fn f_pool_copied [] [])) [(.t P7_65)],some P7_66⟩,
 ⟨.no,.store 5 (.t P7_4) (.t P7_66),none⟩,
 ⟨.no,.mv (.c (.int .i64 (.ofNat 0))),some P7_5⟩])
 .ret))))))))), [.cell true 5 P7_4,.t P7_5], 0, false, false⟩
noncomputable def rf_node_Leaf : RFn := ⟨apOf 6 0 1, mkU 6, (.seq (.reg [⟨.no,.box (.t P6_0),some P6_1⟩,
 ⟨.no,.mv (.c (.sl 0 [] .nil)),some P6_2⟩,
 ⟨.no,.mv (.c (.int .i64 (.ofNat 0))),some P6_3⟩])
 (.seq (.seq (.reg [⟨.no,.faddr 2 1 (.t P6_1),some P6_9⟩,
 ⟨.no,.load false 1 (.t P6_9),some P6_10⟩,
 ⟨.no,.ne .int (.t P6_10) (.c (.int .i64 (.ofNat 3))),some P6_11⟩,
 ⟨.no,.mv (.t P6_11),some P6_12⟩,
 ⟨(.on P6_12 false),.faddr 3 1 (.t P6_1),some P6_13⟩,
 ⟨(.on P6_12 false),.load false 1 (.t P6_13),some P6_14⟩,
 ⟨(.on P6_12 false),.len .str (.t P6_14),some P6_15⟩,
 ⟨(.on P6_12 false),.ne .int (.t P6_15) (.c (.int .i64 (.ofNat 4))),some P6_16⟩,
 ⟨.no,.pick (.t P6_12) (.c (.bool true)) (.t P6_16),some P6_17⟩])
 (.cond (.t P6_17) (.seq (.reg [⟨.no,.mv (.c (.sl 0 [] .nil)),some P6_2⟩,
 ⟨.no,.mv (.c (.int .i64 (.ofNat 120))),some P6_3⟩])
 .ret)
 .skip))
 (.seq (.reg [⟨.no,.mv (.c (.sl 0 [] .nil)),some P6_4⟩])
 (.seq (.seq (.reg [⟨.no,.faddr 4 1 (.t P6_1),some P6_18⟩,
 ⟨.no,.load false 1 (.t P6_18),some P6_19⟩,
 ⟨.no,.len .sl (.t P6_19),some P6_20⟩,
 ⟨.no,.mv (.c (.int .i64 (.ofNat 0))),some P6_21⟩])
 (.block 0 (.loop (.seq (.reg [⟨.no,.bin .lss (.t P6_21) (.t P6_20),some P6_22⟩])
 (.seq (.cond (.t P6_22) .skip
 (.exit 0))
 (.seq (.block 1 (.seq (.reg [⟨.no,.ixSl 1 (.t P6_19) (.t P6_21),some P6_23⟩,
 ⟨.no,.load false 1 (.t P6_23),some P6_24⟩,
 ⟨.no,.mv (.t P6_24),some P6_6⟩])
 (.seq (.seq (.reg [⟨.no,.mv (.t P6_6),some P6_25⟩,
 ⟨.no,.len .str (.t P6_25),some P6_26⟩,
 ⟨.no,.bin .lss (.t P6_26) (.c (.int .i64 (.ofNat 7))),some P6_27⟩,
 ⟨.no,.mv (.t P6_27),some P6_28⟩,
 ⟨(.on P6_28 false),.mv (.t P6_6),some P6_29⟩,
 ⟨(.on P6_28 false),.ixStr (.t P6_29) (.c (.int .i64 (.ofNat 0))),some P6_30⟩,
 ⟨(.on P6_28 false),.bin .gtr (.t P6_30) (.c (.int .u8 (.ofNat 1))),some P6_31⟩,
 ⟨.no,.pick (.t P6_28) (.c (.bool true)) (.t P6_31),some P6_32⟩])
 (.cond (.t P6_32) (.seq (.reg [⟨.no,.mv (.c (.sl 0 [] .nil)),some P6_2⟩,
 ⟨.no,.mv (.c (.int .i64 (.ofNat 120))),some P6_3⟩])
 .ret)
 .skip))
 (.seq (.reg [⟨.no,.mv (.t P6_6),some P6_33⟩,
 ⟨.no,.call (.c (.fn f_raw_NewReader [] [])) [(.t P6_33)],some P6_34⟩,
 ⟨.no,.mv (.t P6_34),some P6_7⟩])
 (.seq (.reg [⟨.no,.mv (.t P6_7),some P6_35⟩,
 ⟨.no,.call (.c (.fn f_raw_Reader_Bool [] [])) [(.t P6_35)],some P6_36⟩,
 ⟨.no,.build [(.str []),(.int .u32 (.ofNat 0)),(.int .i64 (.ofNat 0)),(.bool false)] [(3,1,(.t P6_36))],some P6_37⟩,
 ⟨.no,.alloc [(.str []),(.int .u32 (.ofNat 0)),(.int .i64 (.ofNat 0)),(.bool false)],some P6_8⟩,
 ⟨.no,.store 4 (.t P6_8) (.t P6_37),none⟩])
 (.seq (.reg [⟨.no,.mv (.t P6_7),some P6_38⟩,
 ⟨.no,.call (.c (.fn f_node_take [] [])) [(.t P6_38)],some P6_39⟩,
 ⟨.no,.faddr 0 3 (.t P6_8),some P6_40⟩,
 ⟨.no,.store 3 (.t P6_40) (.t P6_39),none⟩])
 (.reg [⟨.no,.mv (.t P6_4),some P6_41⟩,
 ⟨.no,.load true 4 (.t P6_8),some P6_42⟩,
 ⟨.no,.buildSl 1 [(.str []),(.int .u32 (.ofNat 0)),(.int .i64 (.ofNat 0)),(.bool false)] [(0,4,(.t P6_42))],some P6_43⟩,
 ⟨.no,.app 4 40 false (.t P6_41) (.t P6_43),some P6_44⟩,
 ⟨.no,.mv (.t P6_44),some P6_4⟩])))))))
 (.reg [⟨.no,.bin .add (.t P6_21) (.c (.int .i64 (.ofNat 1))),some P6_45⟩,
 ⟨.no,.mv (.t P6_45),some P6_21⟩])))))))
 (.seq (.reg [⟨.no,.mv (.t P6_4),some P6_46⟩,
 ⟨.no,.mv (.t P6_46),some P6_2⟩,
 ⟨.no,.mv (.c (.int .i64 (.ofNat 0))),some P6_3⟩])
 .ret))))), [.t P6_2,.t P6_3], 0, false, false⟩
noncomputable def rf_txn_Manager_find : RFn := ⟨apOf 5 0 2, mkU 5, (.seq (.reg [⟨.no,.mv (.c .nilp),some P5_4⟩,
 ⟨.no,.mv (.c (.int .i64 (.ofNat 0))),some P5_5⟩])
 (.seq (.seq (.reg [⟨.no,.mv (.t P5_0),some P5_8⟩,
 ⟨.no,.eq .ptr (.t P5_8) (.c .nilp),some P5_9⟩])
 (.cond (.t P5_9) (.seq (.reg [⟨.no,.mv (.c .nilp),some P5_4⟩,
 ⟨.no,.mv (.c (.int .i64 (.ofNat 1))),some P5_5⟩])
 .ret)
 .skip))
 (.seq (.reg [⟨.no,.mv (.t P5_0),some P5_11⟩,
 ⟨.no,.nilc (.t P5_11),some P5_12⟩,
 ⟨.no,.faddr 2 1 (.t P5_12),some P5_13⟩,
 ⟨.no,.load false 1 (.t P5_13),some P5_14⟩,
 ⟨.no,.mv (.t P5_1),some P5_15⟩,
 ⟨.no,.look (.int .i64) .nilp (.t P5_14) (.t P5_15) true,some P5_16⟩,
 ⟨.no,.mv (.t P5_16),some P5_10⟩,
 ⟨.no,.extr (.t P5_10) 0,some P5_17⟩,
 ⟨.no,.extr (.t P5_10) 1,some P5_18⟩,
 ⟨.no,.mv (.t P5_17),some P5_6⟩,
 ⟨.no,.mv (.t P5_18),some P5_7⟩])
 (.seq (.seq (.reg [⟨.no,.mv (.t P5_7),some P5_19⟩,
 ⟨.no,.un .not (.t P5_19),some P5_20⟩])
 (.cond (.t P5_20) (.seq (.reg [⟨.no,.mv (.c .nilp),some P5_4⟩,
 ⟨.no,.mv (.c (.int .i64 (.ofNat 90))),some P5_5⟩])
 .ret)
 .skip))
 (.seq (.reg [⟨.no,.mv (.t P5_6),some P5_21⟩,
 ⟨.no,.mv (.t P5_21),some P5_4⟩,
 ⟨.no,.mv (.c (.int .i64 (.ofNat 0))),some P5_5⟩])
 .ret))))), [.t P5_4,.t P5_5], 0, false, false⟩
noncomputable def rf_txn_Manager_put : RFn := ⟨apOf 7 0 4, mkU 7, (.seq (.reg [⟨.no,.box (.t P7_2),some P7_6⟩,
 ⟨.no,.mv (.c (.int .u64 (.ofNat 0))),some P7_8⟩,
 ⟨.no,.mv (.c (.int .i64 (.ofNat 0))),some P7_9⟩])
 (.seq (.draw [] 15 [⟨⟨.no,.mv (.t P7_1),some P7_14⟩,.val,0,0⟩,
 ⟨⟨.no,.nilc (.t P7_14),some P7_15⟩,.val,0,0⟩,
 ⟨⟨.no,.faddr 0 4 (.t P7_15),some P7_16⟩,.val,0,0⟩,
 ⟨⟨.no,.faddr 0 1 (.t P7_16),some P7_17⟩,.val,0,0⟩,
 ⟨⟨.no,.load false 1 (.t P7_17),some P7_18⟩,.read,0,0⟩,
 ⟨⟨.no,.mv (.t P7_1),some P7_19⟩,.val,0,1⟩,
 ⟨⟨.no,.nilc (.t P7_19),some P7_20⟩,.val,0,1⟩,
 ⟨⟨.no,.faddr 0 4 (.t P7_20),some P7_21⟩,.val,0,1⟩,
 ⟨⟨.no,.faddr 2 1 (.t P7_21),some P7_22⟩,.val,0,1⟩,
 ⟨⟨.no,.load false 1 (.t P7_22),some P7_23⟩,.read,0,1⟩,
 ⟨⟨.no,.faddr 1 1 (.t P7_6),some P7_24⟩,.val,0,0⟩,
 ⟨⟨.no,.store 1 (.t P7_24) (.t P7_18),none⟩,.eff,0,1⟩,
 ⟨⟨.no,.faddr 2 1 (.t P7_6),some P7_25⟩,.val,1,1⟩,
 ⟨⟨.no,.store 1 (.t P7_25) (.t P7_23),none⟩,.eff,1,2⟩])
 (.seq (.reg [⟨.no,.load true 17 (.t P7_6),some P7_27⟩,
 ⟨.no,.call (.c (.fn f_rec_Encode [] [])) [(.t P7_27)],some P7_28⟩,
 ⟨.no,.mv (.t P7_28),some P7_26⟩,
 ⟨.no,.extr (.t P7_26) 0,some P7_29⟩,
 ⟨.no,.extr (.t P7_26) 1,some P7_30⟩,
 ⟨.no,.mv (.t P7_29),some P7_10⟩,
 ⟨.no,.mv (.t P7_30),some P7_11⟩])
 (.seq (.seq (.reg [⟨.no,.mv (.t P7_11),some P7_31⟩,
 ⟨.no,.ne .int (.t P7_31) (.c (.int .i64 (.ofNat 0))),some P7_32⟩])
 (.cond (.t P7_32) (.seq (.reg [⟨.no,.mv (.t P7_11),some P7_33⟩,
 ⟨.no,.mv (.c (.int .u64 (.ofNat 0))),some P7_8⟩,
 ⟨.no,.mv (.t P7_33),some P7_9⟩])
 .ret)
 .skip))
 (.seq (.reg [⟨.no,.mv (.c (.int .u64 (.ofNat 0))),some P7_12⟩])
 (.seq (.seq (.reg [⟨.no,.mv (.t P7_3),some P7_34⟩])
 (.cond (.t P7_34) (.seq (.reg [⟨.no,.mv (.t P7_0),some P7_35⟩,
 ⟨.no,.nilc (.t P7_35),some P7_36⟩,
 ⟨.no,.faddr 0 1 (.t P7_36),some P7_37⟩,
 ⟨.no,.load false 1 (.t P7_37),some P7_38⟩,
 ⟨.no,.call (.c (.fn f_wal_Log_Kept [] [])) [(.t P7_38)],some P7_39⟩,
 ⟨.no,.mv (.t P7_39),some P7_13⟩])
 (.seq (.reg [⟨.no,.mv (.t P7_0),some P7_41⟩,
 ⟨.no,.nilc (.t P7_41),some P7_42⟩,
 ⟨.no,.faddr 0 1 (.t P7_42),some P7_43⟩,
 ⟨.no,.load false 1 (.t P7_43),some P7_44⟩,
 ⟨.no,.mv (.t P7_10),some P7_45⟩,
 ⟨.no,.call (.c (.fn f_wal_Log_Spend [] [])) [(.t P7_44),(.t P7_45)],some P7_46⟩,
 ⟨.no,.mv (.t P7_46),some P7_40⟩,
 ⟨.no,.extr (.t P7_40) 0,some P7_47⟩,
 ⟨.no,.extr (.t P7_40) 1,some P7_48⟩,
 ⟨.no,.mv (.t P7_47),some P7_12⟩,
 ⟨.no,.mv (.t P7_48),some P7_11⟩])
 (.draw [] 21 [⟨⟨.no,.mv (.t P7_1),some P7_49⟩,.val,0,1⟩,
 ⟨⟨.no,.nilc (.t P7_49),some P7_50⟩,.val,0,1⟩,
 ⟨⟨.no,.faddr 4 1 (.t P7_50),some P7_51⟩,.val,0,1⟩,
 ⟨⟨.no,.load false 1 (.t P7_51),some P7_52⟩,.read,0,1⟩,
 ⟨⟨.no,.mv (.t P7_1),some P7_53⟩,.val,0,1⟩,
 ⟨⟨.no,.nilc (.t P7_53),some P7_54⟩,.val,0,1⟩,
 ⟨⟨.no,.faddr 4 1 (.t P7_54),some P7_55⟩,.val,0,1⟩,
 ⟨⟨.no,.load false 1 (.t P7_55),some P7_56⟩,.read,0,1⟩,
 ⟨⟨.no,.mv (.t P7_13),some P7_57⟩,.val,0,1⟩,
 ⟨⟨.no,.mv (.t P7_0),some P7_58⟩,.val,0,0⟩,
 ⟨⟨.no,.nilc (.t P7_58),some P7_59⟩,.val,0,0⟩,
 ⟨⟨.no,.faddr 0 1 (.t P7_59),some P7_60⟩,.val,0,0⟩,
 ⟨⟨.no,.load false 1 (.t P7_60),some P7_61⟩,.read,0,0⟩,
 ⟨⟨.no,.call (.c (.fn f_wal_Log_Kept [] [])) [(.t P7_61)],some P7_62⟩,.eff,0,1⟩,
 ⟨⟨.no,.bin .sub (.t P7_57) (.t P7_62),some P7_63⟩,.val,1,1⟩,
 ⟨⟨.no,.min (.t P7_56) (.t P7_63),some P7_64⟩,.val,1,1⟩,
 ⟨⟨.no,.bin .sub (.t P7_52) (.t P7_64),some P7_65⟩,.val,1,1⟩,
 ⟨⟨.no,.nilc (.t P7_49),some P7_66⟩,.val,1,1⟩,
 ⟨⟨.no,.faddr 4 1 (.t P7_66),some P7_67⟩,.val,1,1⟩,
 ⟨⟨.no,.store 1 (.t P7_67) (.t P7_65),none⟩,.eff,1,2⟩])))
 (.reg [⟨.no,.mv (.t P7_0),some P7_69⟩,
 ⟨.no,.nilc (.t P7_69),some P7_70⟩,
 ⟨.no,.faddr 0 1 (.t P7_70),some P7_71⟩,
 ⟨.no,.load false 1 (.t P7_71),some P7_72⟩,
 ⟨.no,.mv (.t P7_10),some P7_73⟩,
 ⟨.no,.call (.c (.fn f_wal_Log_Append [] [])) [(.t P7_72),(.t P7_73)],some P7_74⟩,
 ⟨.no,.mv (.t P7_74),some P7_68⟩,
 ⟨.no,.extr (.t P7_68) 0,some P7_75⟩,
 ⟨.no,.extr (.t P7_68) 1,some P7_76⟩,
 ⟨.no,.mv (.t P7_75),some P7_12⟩,
 ⟨.no,.mv (.t P7_76),some P7_11⟩])))
 (.seq (.seq (.reg [⟨.no,.mv (.t P7_11),some P7_77⟩,
 ⟨.no,.ne .int (.t P7_77) (.c (.int .i64 (.ofNat 0))),some P7_78⟩])
 (.cond (.t P7_78) (.seq (.reg [⟨.no,.mv (.t P7_11),some P7_79⟩,
 ⟨.no,.mv (.c (.int .u64 (.ofNat 0))),some P7_8⟩,
 ⟨.no,.mv (.t P7_79),some P7_9⟩])
 .ret)
 .skip))
 (.seq (.reg [⟨.no,.mv (.t P7_1),some P7_80⟩,
 ⟨.no,.mv (.t P7_12),some P7_81⟩,
 ⟨.no,.nilc (.t P7_80),some P7_82⟩,
 ⟨.no,.faddr 0 4 (.t P7_82),some P7_83⟩,
 ⟨.no,.faddr 2 1 (.t P7_83),some P7_84⟩,
 ⟨.no,.store 1 (.t P7_84) (.t P7_81),none⟩])
 (.seq (.reg [⟨.no,.mv (.t P7_12),some P7_85⟩,
 ⟨.no,.mv (.t P7_85),some P7_8⟩,
 ⟨.no,.mv (.c (.int .i64 (.ofNat 0))),some P7_9⟩])
 .ret))))))))), [.t P7_8,.t P7_9], 0, false, false⟩
noncomputable def rf_tree_Path : RFn := ⟨apOf 6 0 3, mkU 6, (.seq (.reg [⟨.no,.box (.t P6_2),some P6_5⟩,
 ⟨.no,.mv (.c (.sl 0 [] .nil)),some P6_6⟩,
 ⟨.no,.mv (.c (.int .i64 (.ofNat 0))),some P6_7⟩])
 (.seq (.reg [⟨.no,.mv (.c (.sl 0 [] .nil)),some P6_8⟩])
 (.seq (.reg [⟨.no,.mv (.t P6_1),some P6_13⟩,
 ⟨.no,.mv (.t P6_13),some P6_9⟩])
 (.seq (.block 0 (.loop (.seq (.seq (.reg [⟨.no,.mv (.t P6_8),some P6_14⟩,
 ⟨.no,.len .sl (.t P6_14),some P6_15⟩,
 ⟨.no,.bin .lss (.t P6_15) (.c (.int .i64 (.ofNat 32))),some P6_16⟩])
 (.cond (.t P6_16) .skip
 (.exit 0)))
 (.block 1 (.seq (.reg [⟨.no,.mv (.t P6_0),some P6_18⟩,
 ⟨.no,.mv (.t P6_9),some P6_19⟩,
 ⟨.no,.call (.c (.fn f_pool_Pool_Get [] [])) [(.t P6_18),(.t P6_19)],some P6_20⟩,
 ⟨.no,.mv (.t P6_20),some P6_17⟩,
 ⟨.no,.extr (.t P6_17) 0,some P6_21⟩,
 ⟨.no,.extr (.t P6_17) 1,some P6_22⟩,
 ⟨.no,.alloc [(.int .u32 (.ofNat 0)),(.int .u64 (.ofNat 0)),(.int .i64 (.ofNat 0)),(.str []),(.sl 0 [] .nil)],some P6_10⟩,
 ⟨.no,.store 5 (.t P6_10) (.t P6_21),none⟩,
 ⟨.no,.mv (.t P6_22),some P6_11⟩])
 (.seq (.seq (.reg [⟨.no,.mv (.t P6_11),some P6_23⟩,
 ⟨.no,.ne .int (.t P6_23) (.c (.int .i64 (.ofNat 0))),some P6_24⟩])
 (.cond (.t P6_24) (.seq (.reg [⟨.no,.mv (.t P6_11),some P6_25⟩,
 ⟨.no,.mv (.c (.sl 0 [] .nil)),some P6_6⟩,
 ⟨.no,.mv (.t P6_25),some P6_7⟩])
 .ret)
 .skip))
 (.seq (.reg [⟨.no,.mv (.t P6_8),some P6_26⟩,
 ⟨.no,.mv (.t P6_9),some P6_27⟩,
 ⟨.no,.buildSl 1 [(.int .u32 (.ofNat 0))] [(0,1,(.t P6_27))],some P6_28⟩,
 ⟨.no,.app 1 4 false (.t P6_26) (.t P6_28),some P6_29⟩,
 ⟨.no,.mv (.t P6_29),some P6_8⟩])
 (.seq (.seq (.reg [⟨.no,.faddr 2 1 (.t P6_10),some P6_30⟩,
 ⟨.no,.load false 1 (.t P6_30),some P6_31⟩,
 ⟨.no,.eq .int (.t P6_31) (.c (.int .i64 (.ofNat 3))),some P6_32⟩])
 (.cond (.t P6_32) (.seq (.reg [⟨.no,.mv (.t P6_8),some P6_33⟩,
 ⟨.no,.mv (.t P6_33),some P6_6⟩,
 ⟨.no,.mv (.c (.int .i64 (.ofNat 0))),some P6_7⟩])
 .ret)
 .skip))
 (.seq (.reg [⟨.no,.load true 5 (.t P6_10),some P6_35⟩,
 ⟨.no,.call (.c (.fn f_node_Inner [] [])) [(.t P6_35)],some P6_36⟩,
 ⟨.no,.mv (.t P6_36),some P6_34⟩,
 ⟨.no,.extr (.t P6_34) 0,some P6_37⟩,
 ⟨.no,.extr (.t P6_34) 1,some P6_38⟩,
 ⟨.no,.mv (.t P6_37),some P6_12⟩,
 ⟨.no,.mv (.t P6_38),some P6_11⟩])
 (.seq (.seq (.reg [⟨.no,.mv (.t P6_11),some P6_39⟩,
 ⟨.no,.ne .int (.t P6_39) (.c (.int .i64 (.ofNat 0))),some P6_40⟩,
 ⟨.no,.mv (.t P6_40),some P6_41⟩,
 ⟨(.on P6_41 false),.mv (.t P6_12),some P6_42⟩,
 ⟨(.on P6_41 false),.len .sl (.t P6_42),some P6_43⟩,
 ⟨(.on P6_41 false),.eq .int (.t P6_43) (.c (.int .i64 (.ofNat 0))),some P6_44⟩,
 ⟨.no,.pick (.t P6_41) (.c (.bool true)) (.t P6_44),some P6_45⟩])
 (.cond (.t P6_45) (.seq (.reg [⟨.no,.mv (.c (.sl 0 [] .nil)),some P6_6⟩,
 ⟨.no,.mv (.c (.int .i64 (.ofNat 120))),some P6_7⟩])
 .ret)
 .skip))
 (.reg [⟨.no,.mv (.t P6_12),some P6_46⟩,
 ⟨.no,.mv (.t P6_12),some P6_47⟩,
 ⟨.no,.load true 3 (.t P6_5),some P6_48⟩,
 ⟨.no,.call (.c (.fn f_node_Down [] [])) [(.t P6_47),(.t P6_48)],some P6_49⟩,
 ⟨.no,.ixSl 4 (.t P6_46) (.t P6_49),some P6_50⟩,
 ⟨.no,.faddr 0 1 (.t P6_50),some P6_51⟩,
 ⟨.no,.load false 1 (.t P6_51),some P6_52⟩,
 ⟨.no,.mv (.t P6_52),some P6_9⟩])))))))))))
 (.seq (.reg [⟨.no,.mv (.c (.sl 0 [] .nil)),some P6_6⟩,
 ⟨.no,.mv (.c (.int .i64 (.ofNat 120))),some P6_7⟩])
 .ret))))), [.t P6_6,.t P6_7], 0, false, false⟩
noncomputable def rf_space_Is : RFn := ⟨apOf 5 0 1, mkU 5, (.seq (.reg [⟨.no,.box (.t P5_0),some P5_1⟩,
 ⟨.no,.mv (.c (.bool false)),some P5_2⟩])
 (.seq (.reg [⟨.no,.faddr 2 1 (.t P5_1),some P5_3⟩,
 ⟨.no,.load false 1 (.t P5_3),some P5_4⟩,
 ⟨.no,.eq .int (.t P5_4) (.c (.int .i64 (.ofNat 1))),some P5_5⟩,
 ⟨.no,.mv (.t P5_5),some P5_6⟩,
 ⟨(.on P5_6 true),.faddr 4 1 (.t P5_1),some P5_7⟩,
 ⟨(.on P5_6 true),.load false 1 (.t P5_7),some P5_8⟩,
 ⟨(.on P5_6 true),.len .sl (.t P5_8),some P5_9⟩,
 ⟨(.on P5_6 true),.eq .int (.t P5_9) (.c (.int .i64 (.ofNat 1))),some P5_10⟩,
 ⟨.no,.pick (.t P5_6) (.t P5_10) (.c (.bool false)),some P5_11⟩,
 ⟨.no,.mv (.t P5_11),some P5_12⟩,
 ⟨(.on P5_12 true),.faddr 4 1 (.t P5_1),some P5_13⟩,
 ⟨(.on P5_12 true),.load false 1 (.t P5_13),some P5_14⟩,
 ⟨(.on P5_12 true),.ixSl 1 (.t P5_14) (.c (.int .i64 (.ofNat 0))),some P5_15⟩,
 ⟨(.on P5_12 true),.load false 1 (.t P5_15),some P5_16⟩,
 ⟨(.on P5_12 true),.len .str (.t P5_16),some P5_17⟩,
 ⟨(.on P5_12 true),.eq .int (.t P5_17) (.c (.int .i64 (.ofNat 256))),some P5_18⟩,
 ⟨.no,.pick (.t P5_12) (.t P5_18) (.c (.bool false)),some P5_19⟩,
 ⟨.no,.mv (.t P5_19),some P5_2⟩])
 .ret)), [.t P5_2], 0, false, false⟩
noncomputable def rf_heap_Format : RFn := ⟨apOf 2 0 0, mkU 2, (.seq (.reg [⟨.no,.alloc [(.int .i64 (.ofNat 0)),(.int .i64 (.ofNat 0)),(.str []),(.str [])],some P2_0⟩])
 (.seq (.reg [⟨.no,.call (.c (.fn f_raw_Put [] [])) [(.c (.int .u64 (.ofNat 0))),(.c (.int .i64 (.ofNat 4)))],some P2_1⟩,
 ⟨.no,.build [(.int .i64 (.ofNat 0)),(.int .i64 (.ofNat 0)),(.str []),(.str [])] [(0,1,(.c (.int .i64 (.ofNat 1)))),(1,1,(.c (.int .i64 (.ofNat 2)))),(2,1,(.t P2_1))],some P2_2⟩,
 ⟨.no,.store 4 (.t P2_0) (.t P2_2),none⟩])
 .ret)), [.cell true 4 P2_0], 0, false, false⟩
noncomputable def rf_wal_Log_Room : RFn := ⟨apOf 4 0 1, mkU 4, (.seq (.reg [⟨.no,.mv (.c (.int .i64 (.ofNat 0))),some P4_2⟩])
 (.seq (.seq (.reg [⟨.no,.mv (.t P4_0),some P4_3⟩,
 ⟨.no,.eq .ptr (.t P4_3) (.c .nilp),some P4_4⟩])
 (.cond (.t P4_4) (.seq (.reg [⟨.no,.mv (.c (.int .i64 (.ofNat 0))),some P4_2⟩])
 .ret)
 .skip))
 (.seq (.reg [⟨.no,.mv (.t P4_0),some P4_5⟩,
 ⟨.no,.nilc (.t P4_5),some P4_6⟩,
 ⟨.no,.faddr 3 1 (.t P4_6),some P4_7⟩,
 ⟨.no,.load false 1 (.t P4_7),some P4_8⟩,
 ⟨.no,.bin .sub (.t P4_8) (.c (.int .u64 (.ofNat 1))),some P4_9⟩,
 ⟨.no,.conv (.toInt .i64) (.t P4_9),some P4_10⟩,
 ⟨.no,.bin .sub (.c (.int .i64 (.ofNat 4194304))) (.t P4_10),some P4_11⟩,
 ⟨.no,.mv (.t P4_11),some P4_2⟩])
 .ret))), [.t P4_2], 0, false, false⟩
noncomputable def rf_catalog_rows : RFn := ⟨apOf 7 0 1, mkU 7, (.seq (.reg [⟨.no,.mv (.c (.sl 0 [] .nil)),some P7_2⟩,
 ⟨.no,.mv (.c (.int .i64 (.ofNat 0))),some P7_3⟩])
 (.seq (.reg [⟨.no,.mv (.t P7_0),some P7_12⟩,
 ⟨.no,.call (.c (.fn f_heap_Scan [] [])) [(.t P7_12),(.c (.int .u32 (.ofNat 2)))],some P7_13⟩,
 ⟨.no,.mv (.t P7_13),some P7_11⟩,
 ⟨.no,.extr (.t P7_11) 0,some P7_14⟩,
 ⟨.no,.extr (.t P7_11) 1,some P7_15⟩,
 ⟨.no,.mv (.t P7_14),some P7_4⟩,
 ⟨.no,.mv (.t P7_15),some P7_5⟩])
 (.seq (.seq (.reg [⟨.no,.mv (.t P7_5),some P7_16⟩,
 ⟨.no,.ne .int (.t P7_16) (.c (.int .i64 (.ofNat 0))),some P7_17⟩])
 (.cond (.t P7_17) (.seq (.reg [⟨.no,.mv (.t P7_5),some P7_18⟩,
 ⟨.no,.mv (.c (.sl 0 [] .nil)),some P7_2⟩,
 ⟨.no,.mv (.t P7_18),some P7_3⟩])
 .ret)
 .skip))
 (.seq (.reg [⟨.no,.mv (.c (.sl 0 [] .nil)),some P7_6⟩])
 (.seq (.seq (.reg [⟨.no,.mv (.t P7_4),some P7_19⟩,
 ⟨.no,.len .sl (.t P7_19),some P7_20⟩,
 ⟨.no,.mv (.c (.int .i64 (.ofNat 0))),some P7_21⟩])
 (.block 0 (.loop (.seq (.reg [⟨.no,.bin .lss (.t P7_21) (.t P7_20),some P7_22⟩])
 (.seq (.cond (.t P7_22) .skip
 (.exit 0))
 (.seq (.block 1 (.seq (.reg [⟨.no,.ixSl 3 (.t P7_19) (.t P7_21),some P7_23⟩,
 ⟨.no,.load true 3 (.t P7_23),some P7_24⟩,
 ⟨.no,.alloc [(.int .u32 (.ofNat 0)),(.int .i64 (.ofNat 0)),(.str [])],some P7_8⟩,
 ⟨.no,.store 3 (.t P7_8) (.t P7_24),none⟩])
 (.seq (.reg [⟨.no,.faddr 2 1 (.t P7_8),some P7_26⟩,
 ⟨.no,.load false 1 (.t P7_26),some P7_27⟩,
 ⟨.no,.call (.c (.fn f_key_Values [] [])) [(.t P7_27)],some P7_28⟩,
 ⟨.no,.mv (.t P7_28),some P7_25⟩,
 ⟨.no,.extr (.t P7_25) 0,some P7_29⟩,
 ⟨.no,.extr (.t P7_25) 1,some P7_30⟩,
 ⟨.no,.mv (.t P7_29),some P7_9⟩,
 ⟨.no,.mv (.t P7_30),some P7_10⟩])
 (.seq (.seq (.reg [⟨.no,.mv (.t P7_10),some P7_31⟩,
 ⟨.no,.ne .int (.t P7_31) (.c (.int .i64 (.ofNat 0))),some P7_32⟩,
 ⟨.no,.mv (.t P7_32),some P7_33⟩,
 ⟨(.on P7_33 false),.mv (.t P7_9),some P7_34⟩,
 ⟨(.on P7_33 false),.len .sl (.t P7_34),some P7_35⟩,
 ⟨(.on P7_33 false),.ne .int (.t P7_35) (.c (.int .i64 (.ofNat 4))),some P7_36⟩,
 ⟨.no,.pick (.t P7_33) (.c (.bool true)) (.t P7_36),some P7_37⟩,
 ⟨.no,.mv (.t P7_37),some P7_38⟩,
 ⟨(.on P7_38 false),.mv (.t P7_9),some P7_39⟩,
 ⟨(.on P7_38 false),.ixSl 3 (.t P7_39) (.c (.int .i64 (.ofNat 0))),some P7_40⟩,
 ⟨(.on P7_38 false),.faddr 2 1 (.t P7_40),some P7_41⟩,
 ⟨(.on P7_38 false),.load false 1 (.t P7_41),some P7_42⟩,
 ⟨(.on P7_38 false),.len .str (.t P7_42),some P7_43⟩,
 ⟨(.on P7_38 false),.bin .lss (.t P7_43) (.c (.int .i64 (.ofNat 2))),some P7_44⟩,
 ⟨.no,.pick (.t P7_38) (.c (.bool true)) (.t P7_44),some P7_45⟩])
 (.cond (.t P7_45) (.seq (.reg [⟨.no,.mv (.c (.sl 0 [] .nil)),some P7_2⟩,
 ⟨.no,.mv (.c (.int .i64 (.ofNat 172))),some P7_3⟩])
 .ret)
 .skip))
 (.draw [] 25 [⟨⟨.no,.mv (.t P7_6),some P7_46⟩,.val,0,0⟩,
 ⟨⟨.no,.faddr 0 2 (.t P7_8),some P7_47⟩,.val,0,0⟩,
 ⟨⟨.no,.load true 2 (.t P7_47),some P7_48⟩,.read,0,0⟩,
 ⟨⟨.no,.mv (.t P7_9),some P7_49⟩,.val,0,0⟩,
 ⟨⟨.no,.ixSl 3 (.t P7_49) (.c (.int .i64 (.ofNat 0))),some P7_50⟩,.val,0,0⟩,
 ⟨⟨.no,.faddr 2 1 (.t P7_50),some P7_51⟩,.val,0,0⟩,
 ⟨⟨.no,.load false 1 (.t P7_51),some P7_52⟩,.read,0,0⟩,
 ⟨⟨.no,.mv (.t P7_9),some P7_53⟩,.val,0,0⟩,
 ⟨⟨.no,.ixSl 3 (.t P7_53) (.c (.int .i64 (.ofNat 1))),some P7_54⟩,.val,0,0⟩,
 ⟨⟨.no,.faddr 1 1 (.t P7_54),some P7_55⟩,.val,0,0⟩,
 ⟨⟨.no,.load false 1 (.t P7_55),some P7_56⟩,.read,0,0⟩,
 ⟨⟨.no,.mv (.t P7_9),some P7_57⟩,.val,0,0⟩,
 ⟨⟨.no,.ixSl 3 (.t P7_57) (.c (.int .i64 (.ofNat 2))),some P7_58⟩,.val,0,0⟩,
 ⟨⟨.no,.faddr 1 1 (.t P7_58),some P7_59⟩,.val,0,0⟩,
 ⟨⟨.no,.load false 1 (.t P7_59),some P7_60⟩,.read,0,0⟩,
 ⟨⟨.no,.mv (.t P7_9),some P7_61⟩,.val,0,0⟩,
 ⟨⟨.no,.ixSl 3 (.t P7_61) (.c (.int .i64 (.ofNat 3))),some P7_62⟩,.val,0,0⟩,
 ⟨⟨.no,.faddr 1 1 (.t P7_62),some P7_63⟩,.val,0,0⟩,
 ⟨⟨.no,.load false 1 (.t P7_63),some P7_64⟩,.read,0,0⟩,
 ⟨⟨.no,.build [(.int .i64 (.ofNat 0)),(.int .i64 (.ofNat 0)),(.int .i64 (.ofNat 0))] [(0,1,(.t P7_56)),(1,1,(.t P7_60)),(2,1,(.t P7_64))],some P7_65⟩,.val,0,0⟩,
 ⟨⟨.no,.build [(.int .u32 (.ofNat 0)),(.int .i64 (.ofNat 0)),(.str []),(.int .i64 (.ofNat 0)),(.int .i64 (.ofNat 0)),(.int .i64 (.ofNat 0))] [(0,2,(.t P7_48)),(2,1,(.t P7_52)),(3,3,(.t P7_65))],some P7_66⟩,.val,0,0⟩,
 ⟨⟨.no,.buildSl 1 [(.int .u32 (.ofNat 0)),(.int .i64 (.ofNat 0)),(.str []),(.int .i64 (.ofNat 0)),(.int .i64 (.ofNat 0)),(.int .i64 (.ofNat 0))] [(0,6,(.t P7_66))],some P7_67⟩,.val,0,0⟩,
 ⟨⟨.no,.app 6 56 false (.t P7_46) (.t P7_67),some P7_68⟩,.eff,0,1⟩,
 ⟨⟨.no,.mv (.t P7_68),some P7_6⟩,.val,1,1⟩])))))
 (.reg [⟨.no,.bin .add (.t P7_21) (.c (.int .i64 (.ofNat 1))),some P7_69⟩,
 ⟨.no,.mv (.t P7_69),some P7_21⟩])))))))
 (.seq (.reg [⟨.no,.mv (.t P7_6),some P7_70⟩,
 ⟨.no,.mv (.t P7_70),some P7_2⟩,
 ⟨.no,.mv (.c (.int .i64 (.ofNat 0))),some P7_3⟩])
 .ret)))))), [.t P7_2,.t P7_3], 0, false, false⟩
noncomputable def rf_key_Row : RFn := ⟨apOf 7 0 1, mkU 7, (.seq (.reg [⟨.no,.mv (.c (.str [])),some P7_2⟩,
 ⟨.no,.mv (.c (.int .i64 (.ofNat 0))),some P7_3⟩])
 (.seq (.seq (.reg [⟨.no,.mv (.t P7_0),some P7_8⟩,
 ⟨.no,.len .sl (.t P7_8),some P7_9⟩,
 ⟨.no,.bin .lss (.t P7_9) (.c (.int .i64 (.ofNat 1))),some P7_10⟩,
 ⟨.no,.mv (.t P7_10),some P7_11⟩,
 ⟨(.on P7_11 false),.mv (.t P7_0),some P7_12⟩,
 ⟨(.on P7_11 false),.len .sl (.t P7_12),some P7_13⟩,
 ⟨(.on P7_11 false),.bin .gtr (.t P7_13) (.c (.int .i64 (.ofNat 4))),some P7_14⟩,
 ⟨.no,.pick (.t P7_11) (.c (.bool true)) (.t P7_14),some P7_15⟩])
 (.cond (.t P7_15) (.seq (.reg [⟨.no,.mv (.c (.str [])),some P7_2⟩,
 ⟨.no,.mv (.c (.int .i64 (.ofNat 111))),some P7_3⟩])
 .ret)
 .skip))
 (.seq (.reg [⟨.no,.call (.c (.fn f_raw_NewWriter [] [])) [],some P7_16⟩,
 ⟨.no,.mv (.t P7_16),some P7_4⟩])
 (.seq (.reg [⟨.no,.mv (.t P7_4),some P7_17⟩,
 ⟨.no,.mv (.t P7_0),some P7_18⟩,
 ⟨.no,.len .sl (.t P7_18),some P7_19⟩,
 ⟨.no,.conv (.toInt .u64) (.t P7_19),some P7_20⟩,
 ⟨.no,.call (.c (.fn f_raw_Writer_Number [] [])) [(.t P7_17),(.t P7_20),(.c (.int .i64 (.ofNat 1)))],some P7_21⟩])
 (.seq (.seq (.reg [⟨.no,.mv (.t P7_0),some P7_22⟩,
 ⟨.no,.len .sl (.t P7_22),some P7_23⟩,
 ⟨.no,.mv (.c (.int .i64 (.ofNat 0))),some P7_24⟩])
 (.block 0 (.loop (.seq (.reg [⟨.no,.bin .lss (.t P7_24) (.t P7_23),some P7_25⟩])
 (.seq (.cond (.t P7_25) .skip
 (.exit 0))
 (.seq (.block 1 (.seq (.reg [⟨.no,.ixSl 3 (.t P7_22) (.t P7_24),some P7_26⟩,
 ⟨.no,.load true 3 (.t P7_26),some P7_27⟩,
 ⟨.no,.alloc [(.int .i64 (.ofNat 0)),(.int .i64 (.ofNat 0)),(.str [])],some P7_6⟩,
 ⟨.no,.store 3 (.t P7_6) (.t P7_27),none⟩])
 (.seq (.seq (.reg [⟨.no,.load true 3 (.t P7_6),some P7_28⟩,
 ⟨.no,.call (.c (.fn f_key_Check [] [])) [(.t P7_28)],some P7_29⟩,
 ⟨.no,.mv (.t P7_29),some P7_7⟩])
 (.seq (.reg [⟨.no,.mv (.t P7_7),some P7_30⟩,
 ⟨.no,.ne .int (.t P7_30) (.c (.int .i64 (.ofNat 0))),some P7_31⟩])
 (.cond (.t P7_31) (.seq (.reg [⟨.no,.mv (.t P7_7),some P7_32⟩,
 ⟨.no,.mv (.c (.str [])),some P7_2⟩,
 ⟨.no,.mv (.t P7_32),some P7_3⟩])
 .ret)
 .skip)))
 (.seq (.reg [⟨.no,.mv (.t P7_4),some P7_33⟩,
 ⟨.no,.faddr 0 1 (.t P7_6),some P7_34⟩,
 ⟨.no,.load false 1 (.t P7_34),some P7_35⟩,
 ⟨.no,.conv (.toInt .u64) (.t P7_35),some P7_36⟩,
 ⟨.no,.call (.c (.fn f_raw_Writer_Number [] [])) [(.t P7_33),(.t P7_36),(.c (.int .i64 (.ofNat 1)))],some P7_37⟩])
 (.seq (.reg [⟨.no,.faddr 0 1 (.t P7_6),some P7_38⟩,
 ⟨.no,.load false 1 (.t P7_38),some P7_39⟩])
 (.block 2 (.seq (.reg [⟨.no,.eq .int (.t P7_39) (.c (.int .i64 (.ofNat 1))),some P7_41⟩,
 ⟨.no,.mv (.t P7_41),some P7_40⟩])
 (.cond (.t P7_40) (.reg [⟨.no,.mv (.t P7_4),some P7_42⟩,
 ⟨.no,.faddr 1 1 (.t P7_6),some P7_43⟩,
 ⟨.no,.load false 1 (.t P7_43),some P7_44⟩,
 ⟨.no,.conv (.toInt .u64) (.t P7_44),some P7_45⟩,
 ⟨.no,.call (.c (.fn f_raw_Writer_Number [] [])) [(.t P7_42),(.t P7_45),(.c (.int .i64 (.ofNat 8)))],some P7_46⟩])
 (.seq (.reg [⟨.no,.eq .int (.t P7_39) (.c (.int .i64 (.ofNat 2))),some P7_48⟩,
 ⟨.no,.mv (.t P7_48),some P7_47⟩])
 (.cond (.t P7_47) (.seq (.reg [⟨.no,.mv (.t P7_4),some P7_49⟩,
 ⟨.no,.faddr 2 1 (.t P7_6),some P7_50⟩,
 ⟨.no,.load false 1 (.t P7_50),some P7_51⟩,
 ⟨.no,.len .str (.t P7_51),some P7_52⟩,
 ⟨.no,.conv (.toInt .u64) (.t P7_52),some P7_53⟩,
 ⟨.no,.call (.c (.fn f_raw_Writer_Number [] [])) [(.t P7_49),(.t P7_53),(.c (.int .i64 (.ofNat 1)))],some P7_54⟩])
 (.reg [⟨.no,.mv (.t P7_4),some P7_55⟩,
 ⟨.no,.faddr 2 1 (.t P7_6),some P7_56⟩,
 ⟨.no,.load false 1 (.t P7_56),some P7_57⟩,
 ⟨.no,.call (.c (.fn f_raw_Writer_Bytes [] [])) [(.t P7_55),(.t P7_57)],some P7_58⟩]))
 .skip))))))))))
 (.reg [⟨.no,.bin .add (.t P7_24) (.c (.int .i64 (.ofNat 1))),some P7_59⟩,
 ⟨.no,.mv (.t P7_59),some P7_24⟩])))))))
 (.seq (.seq (.reg [⟨.no,.mv (.t P7_4),some P7_60⟩,
 ⟨.no,.call (.c (.fn f_raw_Writer_Len [] [])) [(.t P7_60)],some P7_61⟩,
 ⟨.no,.bin .gtr (.t P7_61) (.c (.int .i64 (.ofNat 60))),some P7_62⟩])
 (.cond (.t P7_62) (.seq (.reg [⟨.no,.mv (.c (.str [])),some P7_2⟩,
 ⟨.no,.mv (.c (.int .i64 (.ofNat 101))),some P7_3⟩])
 .ret)
 .skip))
 (.seq (.reg [⟨.no,.mv (.t P7_4),some P7_63⟩,
 ⟨.no,.call (.c (.fn f_raw_Writer_All [] [])) [(.t P7_63)],some P7_64⟩,
 ⟨.no,.mv (.t P7_64),some P7_2⟩,
 ⟨.no,.mv (.c (.int .i64 (.ofNat 0))),some P7_3⟩])
 .ret))))))), [.t P7_2,.t P7_3], 0, false, false⟩
noncomputable def rf_heap_Put : RFn := ⟨apOf 7 0 4, mkU 7, (.seq (.reg [⟨.no,.box (.t P7_2),some P7_6⟩,
 ⟨.no,.mv (.c (.int .i64 (.ofNat 0))),some P7_8⟩])
 (.seq (.seq (.reg [⟨.no,.mv (.t P7_3),some P7_17⟩,
 ⟨.no,.len .str (.t P7_17),some P7_18⟩,
 ⟨.no,.bin .gtr (.t P7_18) (.c (.int .i64 (.ofNat 60))),some P7_19⟩])
 (.cond (.t P7_19) (.seq (.reg [⟨.no,.mv (.c (.int .i64 (.ofNat 101))),some P7_8⟩])
 .ret)
 .skip))
 (.seq (.reg [⟨.no,.mv (.t P7_0),some P7_21⟩,
 ⟨.no,.load true 2 (.t P7_6),some P7_22⟩,
 ⟨.no,.call (.c (.fn f_heap_at [] [])) [(.t P7_21),(.t P7_22)],some P7_23⟩,
 ⟨.no,.mv (.t P7_23),some P7_20⟩,
 ⟨.no,.extr (.t P7_20) 0,some P7_24⟩,
 ⟨.no,.extr (.t P7_20) 1,some P7_25⟩,
 ⟨.no,.extr (.t P7_20) 2,some P7_26⟩,
 ⟨.no,.alloc [(.int .u32 (.ofNat 0)),(.int .u64 (.ofNat 0)),(.int .i64 (.ofNat 0)),(.str []),(.sl 0 [] .nil)],some P7_9⟩,
 ⟨.no,.store 5 (.t P7_9) (.t P7_24),none⟩,
 ⟨.no,.mv (.t P7_25),some P7_10⟩,
 ⟨.no,.mv (.t P7_26),some P7_11⟩])
 (.seq (.block 0 (.seq (.reg [⟨.no,.mv (.t P7_11),some P7_28⟩,
 ⟨.no,.ne .int (.t P7_28) (.c (.int .i64 (.ofNat 0))),some P7_29⟩,
 ⟨.no,.mv (.t P7_29),some P7_27⟩])
 (.cond (.t P7_27) (.seq (.reg [⟨.no,.mv (.t P7_11),some P7_30⟩,
 ⟨.no,.mv (.t P7_30),some P7_8⟩])
 .ret)
 (.seq (.reg [⟨.no,.mv (.t P7_10),some P7_32⟩,
 ⟨.no,.un .not (.t P7_32),some P7_33⟩,
 ⟨.no,.mv (.t P7_33),some P7_34⟩,
 ⟨(.on P7_34 true),.faddr 1 1 (.t P7_6),some P7_35⟩,
 ⟨(.on P7_34 true),.load false 1 (.t P7_35),some P7_36⟩,
 ⟨(.on P7_34 true),.faddr 4 1 (.t P7_9),some P7_37⟩,
 ⟨(.on P7_34 true),.load false 1 (.t P7_37),some P7_38⟩,
 ⟨(.on P7_34 true),.len .sl (.t P7_38),some P7_39⟩,
 ⟨(.on P7_34 true),.ne .int (.t P7_36) (.t P7_39),some P7_40⟩,
 ⟨(.on P7_34 true),.mv (.t P7_40),some P7_41⟩,
 ⟨(.on P7_41 false),.faddr 1 1 (.t P7_6),some P7_42⟩,
 ⟨(.on P7_41 false),.load false 1 (.t P7_42),some P7_43⟩,
 ⟨(.on P7_41 false),.bin .geq (.t P7_43) (.c (.int .i64 (.ofNat 7))),some P7_44⟩,
 ⟨(.on P7_34 true),.pick (.t P7_41) (.c (.bool true)) (.t P7_44),some P7_45⟩,
 ⟨.no,.pick (.t P7_34) (.t P7_45) (.c (.bool false)),some P7_46⟩,
 ⟨.no,.mv (.t P7_46),some P7_31⟩])
 (.cond (.t P7_31) (.seq (.reg [⟨.no,.mv (.c (.int .i64 (.ofNat 2))),some P7_8⟩])
 .ret)
 (.seq (.reg [⟨.no,.mv (.t P7_10),some P7_48⟩,
 ⟨.no,.un .not (.t P7_48),some P7_49⟩,
 ⟨.no,.mv (.t P7_49),some P7_47⟩])
 (.cond (.t P7_47) (.seq (.reg [⟨.no,.call (.c (.fn f_heap_slot [] [])) [(.c (.str [])),(.c (.bool false))],some P7_50⟩,
 ⟨.no,.mv (.t P7_50),some P7_12⟩])
 (.seq (.seq (.reg [⟨.no,.mv (.t P7_0),some P7_52⟩,
 ⟨.no,.mv (.t P7_1),some P7_53⟩,
 ⟨.no,.faddr 0 1 (.t P7_6),some P7_54⟩,
 ⟨.no,.load false 1 (.t P7_54),some P7_55⟩,
 ⟨.no,.faddr 1 1 (.t P7_6),some P7_56⟩,
 ⟨.no,.load false 1 (.t P7_56),some P7_57⟩,
 ⟨.no,.mv (.t P7_12),some P7_58⟩,
 ⟨.no,.build [(.int .i64 (.ofNat 0)),(.int .i64 (.ofNat 0)),(.str []),(.str [])] [(0,1,(.c (.int .i64 (.ofNat 2)))),(1,1,(.t P7_57)),(2,1,(.t P7_58))],some P7_59⟩,
 ⟨.no,.build [(.int .u32 (.ofNat 0)),(.int .i64 (.ofNat 0)),(.int .i64 (.ofNat 0)),(.str []),(.str []),(.int .i64 (.ofNat 0)),(.int .i64 (.ofNat 0)),(.str []),(.int .u32 (.ofNat 0)),(.int .i64 (.ofNat 0)),(.bool false)] [(0,1,(.t P7_55)),(1,4,(.t P7_59))],some P7_60⟩,
 ⟨.no,.call (.c (.fn f_txn_Manager_Log [] [])) [(.t P7_52),(.t P7_53),(.t P7_60)],some P7_61⟩,
 ⟨.no,.mv (.t P7_61),some P7_51⟩,
 ⟨.no,.extr (.t P7_51) 0,some P7_62⟩,
 ⟨.no,.extr (.t P7_51) 1,some P7_63⟩,
 ⟨.no,.mv (.t P7_62),some P7_13⟩,
 ⟨.no,.mv (.t P7_63),some P7_14⟩])
 (.seq (.reg [⟨.no,.mv (.t P7_14),some P7_64⟩,
 ⟨.no,.ne .int (.t P7_64) (.c (.int .i64 (.ofNat 0))),some P7_65⟩])
 (.cond (.t P7_65) (.seq (.reg [⟨.no,.mv (.t P7_14),some P7_66⟩,
 ⟨.no,.mv (.t P7_66),some P7_8⟩])
 .ret)
 .skip)))
 (.seq (.draw [] 9 [⟨⟨.no,.mv (.t P7_0),some P7_67⟩,.val,0,1⟩,
 ⟨⟨.no,.mv (.t P7_1),some P7_68⟩,.val,0,1⟩,
 ⟨⟨.no,.load true 2 (.t P7_6),some P7_69⟩,.read,0,1⟩,
 ⟨⟨.no,.mv (.t P7_3),some P7_70⟩,.val,0,0⟩,
 ⟨⟨.no,.call (.c (.fn f_heap_slot [] [])) [(.t P7_70),(.c (.bool true))],some P7_71⟩,.eff,0,1⟩,
 ⟨⟨.no,.mv (.t P7_12),some P7_72⟩,.val,0,1⟩,
 ⟨⟨.no,.call (.c (.fn f_heap_set [] [])) [(.t P7_67),(.t P7_68),(.t P7_69),(.t P7_71),(.t P7_72)],some P7_73⟩,.eff,1,2⟩,
 ⟨⟨.no,.mv (.t P7_73),some P7_8⟩,.val,2,2⟩])
 .ret)))
 .skip)))))))
 (.seq (.seq (.reg [⟨.no,.faddr 4 1 (.t P7_9),some P7_75⟩,
 ⟨.no,.load false 1 (.t P7_75),some P7_76⟩,
 ⟨.no,.faddr 1 1 (.t P7_6),some P7_77⟩,
 ⟨.no,.load false 1 (.t P7_77),some P7_78⟩,
 ⟨.no,.ixSl 1 (.t P7_76) (.t P7_78),some P7_79⟩,
 ⟨.no,.load false 1 (.t P7_79),some P7_80⟩,
 ⟨.no,.call (.c (.fn f_heap_taken [] [])) [(.t P7_80)],some P7_81⟩,
 ⟨.no,.mv (.t P7_81),some P7_74⟩,
 ⟨.no,.extr (.t P7_74) 0,some P7_82⟩,
 ⟨.no,.extr (.t P7_74) 1,some P7_83⟩,
 ⟨.no,.mv (.t P7_82),some P7_15⟩,
 ⟨.no,.mv (.t P7_83),some P7_16⟩])
 (.seq (.reg [⟨.no,.mv (.t P7_16),some P7_84⟩])
 (.cond (.t P7_84) (.seq (.reg [⟨.no,.mv (.c (.int .i64 (.ofNat 102))),some P7_8⟩])
 .ret)
 .skip)))
 (.seq (.draw [] 14 [⟨⟨.no,.mv (.t P7_0),some P7_85⟩,.val,0,1⟩,
 ⟨⟨.no,.mv (.t P7_1),some P7_86⟩,.val,0,1⟩,
 ⟨⟨.no,.load true 2 (.t P7_6),some P7_87⟩,.read,0,1⟩,
 ⟨⟨.no,.mv (.t P7_3),some P7_88⟩,.val,0,0⟩,
 ⟨⟨.no,.call (.c (.fn f_heap_slot [] [])) [(.t P7_88),(.c (.bool true))],some P7_89⟩,.eff,0,1⟩,
 ⟨⟨.no,.faddr 4 1 (.t P7_9),some P7_90⟩,.val,0,1⟩,
 ⟨⟨.no,.load false 1 (.t P7_90),some P7_91⟩,.read,0,1⟩,
 ⟨⟨.no,.faddr 1 1 (.t P7_6),some P7_92⟩,.val,0,1⟩,
 ⟨⟨.no,.load false 1 (.t P7_92),some P7_93⟩,.read,0,1⟩,
 ⟨⟨.no,.ixSl 1 (.t P7_91) (.t P7_93),some P7_94⟩,.val,0,1⟩,
 ⟨⟨.no,.load false 1 (.t P7_94),some P7_95⟩,.read,0,1⟩,
 ⟨⟨.no,.call (.c (.fn f_heap_set [] [])) [(.t P7_85),(.t P7_86),(.t P7_87),(.t P7_89),(.t P7_95)],some P7_96⟩,.eff,1,2⟩,
 ⟨⟨.no,.mv (.t P7_96),some P7_8⟩,.val,2,2⟩])
 .ret)))))), [.t P7_8], 0, false, false⟩
noncomputable def rf_wal_Frame : RFn := ⟨apOf 6 0 2, mkU 6, (.seq (.reg [⟨.no,.mv (.c (.str [])),some P6_4⟩,
 ⟨.no,.mv (.c (.int .i64 (.ofNat 0))),some P6_5⟩])
 (.seq (.block 0 (.seq (.reg [⟨.no,.mv (.t P6_1),some P6_9⟩,
 ⟨.no,.len .str (.t P6_9),some P6_10⟩,
 ⟨.no,.bin .lss (.t P6_10) (.c (.int .i64 (.ofNat 1))),some P6_11⟩,
 ⟨.no,.mv (.t P6_11),some P6_12⟩,
 ⟨(.on P6_12 false),.mv (.t P6_1),some P6_13⟩,
 ⟨(.on P6_12 false),.len .str (.t P6_13),some P6_14⟩,
 ⟨(.on P6_12 false),.bin .gtr (.t P6_14) (.c (.int .i64 (.ofNat 8192))),some P6_15⟩,
 ⟨.no,.pick (.t P6_12) (.c (.bool true)) (.t P6_15),some P6_16⟩,
 ⟨.no,.mv (.t P6_16),some P6_8⟩])
 (.cond (.t P6_8) (.seq (.reg [⟨.no,.mv (.c (.str [])),some P6_4⟩,
 ⟨.no,.mv (.c (.int .i64 (.ofNat 51))),some P6_5⟩])
 .ret)
 (.seq (.reg [⟨.no,.mv (.t P6_0),some P6_18⟩,
 ⟨.no,.eq .int (.t P6_18) (.c (.int .u64 (.ofNat 0))),some P6_19⟩,
 ⟨.no,.mv (.t P6_19),some P6_17⟩])
 (.cond (.t P6_17) (.seq (.reg [⟨.no,.mv (.c (.str [])),some P6_4⟩,
 ⟨.no,.mv (.c (.int .i64 (.ofNat 1))),some P6_5⟩])
 .ret)
 .skip)))))
 (.seq (.reg [⟨.no,.mv (.t P6_1),some P6_20⟩,
 ⟨.no,.len .str (.t P6_20),some P6_21⟩,
 ⟨.no,.conv (.toInt .u64) (.t P6_21),some P6_22⟩,
 ⟨.no,.call (.c (.fn f_raw_Put [] [])) [(.t P6_22),(.c (.int .i64 (.ofNat 4)))],some P6_23⟩,
 ⟨.no,.mv (.t P6_23),some P6_6⟩])
 (.seq (.reg [⟨.no,.mv (.t P6_0),some P6_24⟩,
 ⟨.no,.call (.c (.fn f_raw_Put [] [])) [(.t P6_24),(.c (.int .i64 (.ofNat 8)))],some P6_25⟩,
 ⟨.no,.call (.c (.fn f_raw_Sum [] [])) [(.t P6_25)],some P6_26⟩,
 ⟨.no,.mv (.t P6_1),some P6_27⟩,
 ⟨.no,.call (.c (.fn f_raw_More [] [])) [(.t P6_26),(.t P6_27)],some P6_28⟩,
 ⟨.no,.mv (.t P6_28),some P6_7⟩])
 (.seq (.reg [⟨.no,.mv (.t P6_6),some P6_29⟩,
 ⟨.no,.mv (.t P6_7),some P6_30⟩,
 ⟨.no,.conv (.toInt .u64) (.t P6_30),some P6_31⟩,
 ⟨.no,.call (.c (.fn f_raw_Put [] [])) [(.t P6_31),(.c (.int .i64 (.ofNat 4)))],some P6_32⟩,
 ⟨.no,.bin .add (.t P6_29) (.t P6_32),some P6_33⟩,
 ⟨.no,.mv (.t P6_1),some P6_34⟩,
 ⟨.no,.bin .add (.t P6_33) (.t P6_34),some P6_35⟩,
 ⟨.no,.mv (.t P6_6),some P6_36⟩,
 ⟨.no,.bin .add (.t P6_35) (.t P6_36),some P6_37⟩,
 ⟨.no,.mv (.t P6_37),some P6_4⟩,
 ⟨.no,.mv (.c (.int .i64 (.ofNat 0))),some P6_5⟩])
 .ret))))), [.t P6_4,.t P6_5], 0, false, false⟩
noncomputable def rf_slices_BinarySearch_api_LSN : RFn := ⟨apOf 6 0 2, mkU 6, (.seq (.reg [⟨.no,.mv (.c (.int .i64 (.ofNat 0))),some P6_4⟩,
 ⟨.no,.mv (.c (.bool false)),some P6_5⟩])
 (.seq (.reg [⟨.no,.mv (.t P6_0),some P6_10⟩,
 ⟨.no,.len .sl (.t P6_10),some P6_11⟩,
 ⟨.no,.mv (.t P6_11),some P6_6⟩])
 (.seq (.reg [⟨.no,.mv (.t P6_6),some P6_12⟩,
 ⟨.no,.mv (.c (.int .i64 (.ofNat 0))),some P6_7⟩,
 ⟨.no,.mv (.t P6_12),some P6_8⟩])
 (.seq (.block 0 (.loop (.seq (.seq (.reg [⟨.no,.mv (.t P6_7),some P6_13⟩,
 ⟨.no,.mv (.t P6_8),some P6_14⟩,
 ⟨.no,.bin .lss (.t P6_13) (.t P6_14),some P6_15⟩])
 (.cond (.t P6_15) .skip
 (.exit 0)))
 (.block 1 (.seq (.reg [⟨.no,.mv (.t P6_7),some P6_16⟩,
 ⟨.no,.mv (.t P6_8),some P6_17⟩,
 ⟨.no,.bin .add (.t P6_16) (.t P6_17),some P6_18⟩,
 ⟨.no,.conv (.toInt .u64) (.t P6_18),some P6_19⟩,
 ⟨.no,.bin .shr (.t P6_19) (.c (.int .u64 (.ofNat 1))),some P6_20⟩,
 ⟨.no,.conv (.toInt .i64) (.t P6_20),some P6_21⟩,
 ⟨.no,.mv (.t P6_21),some P6_9⟩])
 (.seq (.reg [⟨.no,.mv (.t P6_0),some P6_22⟩,
 ⟨.no,.mv (.t P6_9),some P6_23⟩,
 ⟨.no,.ixSl 1 (.t P6_22) (.t P6_23),some P6_24⟩,
 ⟨.no,.load false 1 (.t P6_24),some P6_25⟩,
 ⟨.no,.mv (.t P6_1),some P6_26⟩,
 ⟨.no,.call (.c (.fn f_cmp_Less_api_LSN [] [])) [(.t P6_25),(.t P6_26)],some P6_27⟩])
 (.cond (.t P6_27) (.reg [⟨.no,.mv (.t P6_9),some P6_28⟩,
 ⟨.no,.bin .add (.t P6_28) (.c (.int .i64 (.ofNat 1))),some P6_29⟩,
 ⟨.no,.mv (.t P6_29),some P6_7⟩])
 (.reg [⟨.no,.mv (.t P6_9),some P6_30⟩,
 ⟨.no,.mv (.t P6_30),some P6_8⟩]))))))))
 (.seq (.reg [⟨.no,.mv (.t P6_7),some P6_31⟩,
 ⟨.no,.mv (.t P6_7),some P6_32⟩,
 ⟨.no,.mv (.t P6_6),some P6_33⟩,
 ⟨.no,.bin .lss (.t P6_32) (.t P6_33),some P6_34⟩,
 ⟨.no,.mv (.t P6_34),some P6_35⟩,
 ⟨(.on P6_35 true),.mv (.t P6_0),some P6_36⟩,
 ⟨(.on P6_35 true),.mv (.t P6_7),some P6_37⟩,
 ⟨(.on P6_35 true),.ixSl 1 (.t P6_36) (.t P6_37),some P6_38⟩,
 ⟨(.on P6_35 true),.load false 1 (.t P6_38),some P6_39⟩,
 ⟨(.on P6_35 true),.mv (.t P6_1),some P6_40⟩,
 ⟨(.on P6_35 true),.eq .int (.t P6_39) (.t P6_40),some P6_41⟩,
 ⟨(.on P6_35 true),.mv (.t P6_41),some P6_42⟩,
 ⟨(.on P6_42 false),.mv (.t P6_0),some P6_43⟩,
 ⟨(.on P6_42 false),.mv (.t P6_7),some P6_44⟩,
 ⟨(.on P6_42 false),.ixSl 1 (.t P6_43) (.t P6_44),some P6_45⟩,
 ⟨(.on P6_42 false),.load false 1 (.t P6_45),some P6_46⟩,
 ⟨(.on P6_42 false),.call (.c (.fn f_slices_isNaN_api_LSN [] [])) [(.t P6_46)],some P6_47⟩,
 ⟨(.on P6_42 false),.mv (.t P6_47),some P6_48⟩,
 ⟨(.on P6_48 true),.mv (.t P6_1),some P6_49⟩,
 ⟨(.on P6_48 true),.call (.c (.fn f_slices_isNaN_api_LSN [] [])) [(.t P6_49)],some P6_50⟩,
 ⟨(.on P6_42 false),.pick (.t P6_48) (.t P6_50) (.c (.bool false)),some P6_51⟩,
 ⟨(.on P6_35 true),.pick (.t P6_42) (.c (.bool true)) (.t P6_51),some P6_52⟩,
 ⟨.no,.pick (.t P6_35) (.t P6_52) (.c (.bool false)),some P6_53⟩,
 ⟨.no,.mv (.t P6_31),some P6_4⟩,
 ⟨.no,.mv (.t P6_53),some P6_5⟩])
 .ret))))), [.t P6_4,.t P6_5], 0, false, false⟩
noncomputable def rf_wal_Log_Give : RFn := ⟨apOf 5 0 2, mkU 5, (.seq (.reg [⟨.no,.mv (.c (.int .i64 (.ofNat 0))),some P5_4⟩])
 (.seq (.seq (.reg [⟨.no,.mv (.t P5_0),some P5_5⟩,
 ⟨.no,.eq .ptr (.t P5_5) (.c .nilp),some P5_6⟩])
 (.cond (.t P5_6) (.seq (.reg [⟨.no,.mv (.c (.int .i64 (.ofNat 0))),some P5_4⟩])
 .ret)
 .skip))
 (.seq (.draw [] 16 [⟨⟨.no,.mv (.t P5_0),some P5_7⟩,.val,0,0⟩,
 ⟨⟨.no,.nilc (.t P5_7),some P5_8⟩,.val,0,0⟩,
 ⟨⟨.no,.faddr 5 1 (.t P5_8),some P5_9⟩,.val,0,0⟩,
 ⟨⟨.no,.load false 1 (.t P5_9),some P5_10⟩,.read,0,0⟩,
 ⟨⟨.no,.mv (.t P5_1),some P5_11⟩,.val,0,0⟩,
 ⟨⟨.no,.max (.t P5_11) (.c (.int .i64 (.ofNat 0))),some P5_12⟩,.val,0,0⟩,
 ⟨⟨.no,.mv (.t P5_0),some P5_13⟩,.val,0,0⟩,
 ⟨⟨.no,.nilc (.t P5_13),some P5_14⟩,.val,0,0⟩,
 ⟨⟨.no,.faddr 5 1 (.t P5_14),some P5_15⟩,.val,0,0⟩,
 ⟨⟨.no,.load false 1 (.t P5_15),some P5_16⟩,.read,0,0⟩,
 ⟨⟨.no,.min (.t P5_12) (.t P5_16),some P5_17⟩,.val,0,0⟩,
 ⟨⟨.no,.bin .sub (.t P5_10) (.t P5_17),some P5_18⟩,.val,0,0⟩,
 ⟨⟨.no,.nilc (.t P5_7),some P5_19⟩,.val,0,0⟩,
 ⟨⟨.no,.faddr 5 1 (.t P5_19),some P5_20⟩,.val,0,0⟩,
 ⟨⟨.no,.store 1 (.t P5_20) (.t P5_18),none⟩,.eff,0,1⟩])
 (.seq (.reg [⟨.no,.mv (.t P5_0),some P5_21⟩,
 ⟨.no,.nilc (.t P5_21),some P5_22⟩,
 ⟨.no,.faddr 5 1 (.t P5_22),some P5_23⟩,
 ⟨.no,.load false 1 (.t P5_23),some P5_24⟩,
 ⟨.no,.mv (.t P5_24),some P5_4⟩])
 .ret)))), [.t P5_4], 0, false, false⟩
noncomputable def rf_raw_Put : RFn := ⟨apOf 5 0 2, mkU 5, (.seq (.reg [⟨.no,.mv (.c (.str [])),some P5_4⟩])
 (.seq (.reg [⟨.no,.mv (.c (.sl 0 [] .nil)),some P5_5⟩])
 (.seq (.seq (.reg [⟨.no,.mv (.t P5_1),some P5_6⟩,
 ⟨.no,.max (.t P5_6) (.c (.int .i64 (.ofNat 0))),some P5_7⟩,
 ⟨.no,.min (.t P5_7) (.c (.int .i64 (.ofNat 8))),some P5_8⟩,
 ⟨.no,.mv (.c (.int .i64 (.ofNat 0))),some P5_9⟩])
 (.block 0 (.loop (.seq (.reg [⟨.no,.bin .lss (.t P5_9) (.t P5_8),some P5_10⟩])
 (.seq (.cond (.t P5_10) .skip
 (.exit 0))
 (.seq (.block 1 (.seq (.reg [⟨.no,.mv (.t P5_5),some P5_11⟩,
 ⟨.no,.mv (.t P5_0),some P5_12⟩,
 ⟨.no,.conv (.toInt .u8) (.t P5_12),some P5_13⟩,
 ⟨.no,.buildSl 1 [(.int .u8 (.ofNat 0))] [(0,1,(.t P5_13))],some P5_14⟩,
 ⟨.no,.app 1 1 false (.t P5_11) (.t P5_14),some P5_15⟩,
 ⟨.no,.mv (.t P5_15),some P5_5⟩])
 (.reg [⟨.no,.mv (.t P5_0),some P5_16⟩,
 ⟨.no,.bin .shr (.t P5_16) (.c (.int .u64 (.ofNat 8))),some P5_17⟩,
 ⟨.no,.mv (.t P5_17),some P5_0⟩])))
 (.reg [⟨.no,.bin .add (.t P5_9) (.c (.int .i64 (.ofNat 1))),some P5_18⟩,
 ⟨.no,.mv (.t P5_18),some P5_9⟩])))))))
 (.seq (.reg [⟨.no,.mv (.t P5_5),some P5_19⟩,
 ⟨.no,.conv .toStr (.t P5_19),some P5_20⟩,
 ⟨.no,.mv (.t P5_20),some P5_4⟩])
 .ret)))), [.t P5_4], 0, false, false⟩
noncomputable def rf_node_Full : RFn := ⟨apOf 5 0 1, mkU 5, (.seq (.reg [⟨.no,.box (.t P5_0),some P5_1⟩,
 ⟨.no,.mv (.c (.bool false)),some P5_2⟩])
 (.seq (.reg [⟨.no,.mv (.c (.int .i64 (.ofNat 7))),some P5_3⟩])
 (.seq (.seq (.reg [⟨.no,.faddr 2 1 (.t P5_1),some P5_4⟩,
 ⟨.no,.load false 1 (.t P5_4),some P5_5⟩,
 ⟨.no,.eq .int (.t P5_5) (.c (.int .i64 (.ofNat 4))),some P5_6⟩])
 (.cond (.t P5_6) (.reg [⟨.no,.mv (.c (.int .i64 (.ofNat 10))),some P5_3⟩])
 .skip))
 (.seq (.reg [⟨.no,.faddr 4 1 (.t P5_1),some P5_7⟩,
 ⟨.no,.load false 1 (.t P5_7),some P5_8⟩,
 ⟨.no,.len .sl (.t P5_8),some P5_9⟩,
 ⟨.no,.bin .geq (.t P5_9) (.c (.int .i64 (.ofNat 64))),some P5_10⟩,
 ⟨.no,.mv (.t P5_10),some P5_11⟩,
 ⟨(.on P5_11 false),.load true 5 (.t P5_1),some P5_12⟩,
 ⟨(.on P5_11 false),.call (.c (.fn f_page_Room [] [])) [(.t P5_12)],some P5_13⟩,
 ⟨(.on P5_11 false),.mv (.t P5_3),some P5_14⟩,
 ⟨(.on P5_11 false),.bin .add (.c (.int .i64 (.ofNat 2))) (.t P5_14),some P5_15⟩,
 ⟨(.on P5_11 false),.bin .add (.t P5_15) (.c (.int .i64 (.ofNat 64))),some P5_16⟩,
 ⟨(.on P5_11 false),.bin .lss (.t P5_13) (.t P5_16),some P5_17⟩,
 ⟨.no,.pick (.t P5_11) (.c (.bool true)) (.t P5_17),some P5_18⟩,
 ⟨.no,.mv (.t P5_18),some P5_2⟩])
 .ret)))), [.t P5_2], 0, false, false⟩
noncomputable def rf_pool_Pool_room : RFn := ⟨apOf 6 0 1, mkU 6, (.seq (.reg [⟨.no,.mv (.c (.int .i64 (.ofNat 0))),some P6_2⟩])
 (.seq (.seq (.draw [] 11 [⟨⟨.no,.mv (.t P6_0),some P6_7⟩,.val,0,0⟩,
 ⟨⟨.no,.nilc (.t P6_7),some P6_8⟩,.val,0,0⟩,
 ⟨⟨.no,.faddr 3 1 (.t P6_8),some P6_9⟩,.val,0,0⟩,
 ⟨⟨.no,.load false 1 (.t P6_9),some P6_10⟩,.read,0,0⟩,
 ⟨⟨.no,.len .map (.t P6_10),some P6_11⟩,.read,0,0⟩,
 ⟨⟨.no,.mv (.t P6_0),some P6_12⟩,.val,0,0⟩,
 ⟨⟨.no,.nilc (.t P6_12),some P6_13⟩,.val,0,0⟩,
 ⟨⟨.no,.faddr 2 1 (.t P6_13),some P6_14⟩,.val,0,0⟩,
 ⟨⟨.no,.load false 1 (.t P6_14),some P6_15⟩,.read,0,0⟩,
 ⟨⟨.no,.bin .lss (.t P6_11) (.t P6_15),some P6_16⟩,.val,0,0⟩])
 (.cond (.t P6_16) (.seq (.reg [⟨.no,.mv (.c (.int .i64 (.ofNat 0))),some P6_2⟩])
 .ret)
 .skip))
 (.seq (.reg [⟨.no,.mv (.t P6_0),some P6_17⟩,
 ⟨.no,.call (.c (.fn f_pool_Pool_Numbers [] [])) [(.t P6_17)],some P6_18⟩,
 ⟨.no,.mv (.t P6_18),some P6_3⟩])
 (.seq (.reg [⟨.no,.mv (.c (.int .i64 (.ofNat 0))),some P6_4⟩])
 (.seq (.seq (.reg [⟨.no,.mv (.t P6_0),some P6_19⟩,
 ⟨.no,.nilc (.t P6_19),some P6_20⟩,
 ⟨.no,.faddr 4 1 (.t P6_20),some P6_21⟩,
 ⟨.no,.load false 1 (.t P6_21),some P6_22⟩,
 ⟨.no,.len .sl (.t P6_22),some P6_23⟩,
 ⟨.no,.bin .gtr (.t P6_23) (.c (.int .i64 (.ofNat 0))),some P6_24⟩])
 (.cond (.t P6_24) (.seq (.reg [⟨.no,.mv (.t P6_3),some P6_25⟩,
 ⟨.no,.len .sl (.t P6_25),some P6_26⟩,
 ⟨.no,.mv (.t P6_26),some P6_5⟩])
 (.seq (.reg [⟨.no,.mv (.t P6_0),some P6_27⟩,
 ⟨.no,.nilc (.t P6_27),some P6_28⟩,
 ⟨.no,.faddr 4 1 (.t P6_28),some P6_29⟩,
 ⟨.no,.load false 1 (.t P6_29),some P6_30⟩,
 ⟨.no,.ixSl 1 (.t P6_30) (.c (.int .i64 (.ofNat 0))),some P6_31⟩,
 ⟨.no,.load false 1 (.t P6_31),some P6_32⟩,
 ⟨.no,.mv (.t P6_5),some P6_33⟩,
 ⟨.no,.bin .rem (.t P6_32) (.t P6_33),some P6_34⟩,
 ⟨.no,.mv (.t P6_5),some P6_35⟩,
 ⟨.no,.bin .add (.t P6_34) (.t P6_35),some P6_36⟩,
 ⟨.no,.mv (.t P6_5),some P6_37⟩,
 ⟨.no,.bin .rem (.t P6_36) (.t P6_37),some P6_38⟩,
 ⟨.no,.mv (.t P6_38),some P6_4⟩])
 (.reg [⟨.no,.mv (.t P6_0),some P6_39⟩,
 ⟨.no,.mv (.t P6_0),some P6_40⟩,
 ⟨.no,.nilc (.t P6_40),some P6_41⟩,
 ⟨.no,.faddr 4 1 (.t P6_41),some P6_42⟩,
 ⟨.no,.load false 1 (.t P6_42),some P6_43⟩,
 ⟨.no,.slice 1 (.t P6_43) (some (.c (.int .i64 (.ofNat 1)))) none none,some P6_44⟩,
 ⟨.no,.nilc (.t P6_39),some P6_45⟩,
 ⟨.no,.faddr 4 1 (.t P6_45),some P6_46⟩,
 ⟨.no,.store 1 (.t P6_46) (.t P6_44),none⟩])))
 .skip))
 (.seq (.seq (.reg [⟨.no,.mv (.t P6_0),some P6_47⟩,
 ⟨.no,.mv (.t P6_3),some P6_48⟩,
 ⟨.no,.mv (.t P6_4),some P6_49⟩,
 ⟨.no,.ixSl 1 (.t P6_48) (.t P6_49),some P6_50⟩,
 ⟨.no,.load false 1 (.t P6_50),some P6_51⟩,
 ⟨.no,.call (.c (.fn f_pool_Pool_Write [] [])) [(.t P6_47),(.t P6_51)],some P6_52⟩,
 ⟨.no,.mv (.t P6_52),some P6_6⟩])
 (.seq (.reg [⟨.no,.mv (.t P6_6),some P6_53⟩,
 ⟨.no,.ne .int (.t P6_53) (.c (.int .i64 (.ofNat 0))),some P6_54⟩])
 (.cond (.t P6_54) (.seq (.reg [⟨.no,.mv (.t P6_6),some P6_55⟩,
 ⟨.no,.mv (.t P6_55),some P6_2⟩])
 .ret)
 .skip)))
 (.seq (.draw [] 10 [⟨⟨.no,.mv (.t P6_0),some P6_56⟩,.val,0,0⟩,
 ⟨⟨.no,.nilc (.t P6_56),some P6_57⟩,.val,0,0⟩,
 ⟨⟨.no,.faddr 3 1 (.t P6_57),some P6_58⟩,.val,0,0⟩,
 ⟨⟨.no,.load false 1 (.t P6_58),some P6_59⟩,.read,0,0⟩,
 ⟨⟨.no,.mv (.t P6_3),some P6_60⟩,.val,0,0⟩,
 ⟨⟨.no,.mv (.t P6_4),some P6_61⟩,.val,0,0⟩,
 ⟨⟨.no,.ixSl 1 (.t P6_60) (.t P6_61),some P6_62⟩,.val,0,0⟩,
 ⟨⟨.no,.load false 1 (.t P6_62),some P6_63⟩,.read,0,0⟩,
 ⟨⟨.no,.del (.int .u32) (.t P6_59) (.t P6_63),none⟩,.eff,0,1⟩])
 (.seq (.reg [⟨.no,.mv (.c (.int .i64 (.ofNat 0))),some P6_2⟩])
 .ret)))))))), [.t P6_2], 0, false, false⟩
noncomputable def rf_raw_NewReader : RFn := ⟨apOf 3 0 1, mkU 3, (.seq (.reg [⟨.no,.mv (.c .nilp),some P3_2⟩])
 (.seq (.reg [⟨.no,.mv (.t P3_0),some P3_3⟩,
 ⟨.no,.build [(.str []),(.int .i64 (.ofNat 0)),(.int .i64 (.ofNat 0))] [(0,1,(.t P3_3))],some P3_4⟩,
 ⟨.no,.box (.t P3_4),some P3_5⟩,
 ⟨.no,.mv (.t P3_5),some P3_2⟩])
 .ret)), [.t P3_2], 1, false, false⟩
noncomputable def rf_raw_Reader_Bool : RFn := ⟨apOf 6 0 1, mkU 6, (.seq (.reg [⟨.no,.mv (.c (.bool false)),some P6_2⟩])
 (.seq (.seq (.reg [⟨.no,.mv (.t P6_0),some P6_5⟩,
 ⟨.no,.call (.c (.fn f_raw_Reader_Err [] [])) [(.t P6_5)],some P6_6⟩,
 ⟨.no,.ne .int (.t P6_6) (.c (.int .i64 (.ofNat 0))),some P6_7⟩])
 (.cond (.t P6_7) (.seq (.reg [⟨.no,.mv (.c (.bool false)),some P6_2⟩])
 .ret)
 .skip))
 (.seq (.draw [] 15 [⟨⟨.no,.mv (.t P6_0),some P6_9⟩,.val,0,0⟩,
 ⟨⟨.no,.nilc (.t P6_9),some P6_10⟩,.val,0,0⟩,
 ⟨⟨.no,.faddr 0 1 (.t P6_10),some P6_11⟩,.val,0,0⟩,
 ⟨⟨.no,.load false 1 (.t P6_11),some P6_12⟩,.read,0,0⟩,
 ⟨⟨.no,.mv (.t P6_0),some P6_13⟩,.val,0,0⟩,
 ⟨⟨.no,.nilc (.t P6_13),some P6_14⟩,.val,0,0⟩,
 ⟨⟨.no,.faddr 1 1 (.t P6_14),some P6_15⟩,.val,0,0⟩,
 ⟨⟨.no,.load false 1 (.t P6_15),some P6_16⟩,.read,0,0⟩,
 ⟨⟨.no,.call (.c (.fn f_raw_Get [] [])) [(.t P6_12),(.t P6_16),(.c (.int .i64 (.ofNat 1)))],some P6_17⟩,.eff,0,1⟩,
 ⟨⟨.no,.mv (.t P6_17),some P6_8⟩,.val,1,1⟩,
 ⟨⟨.no,.extr (.t P6_8) 0,some P6_18⟩,.val,1,1⟩,
 ⟨⟨.no,.extr (.t P6_8) 1,some P6_19⟩,.val,1,1⟩,
 ⟨⟨.no,.mv (.t P6_18),some P6_3⟩,.val,1,1⟩,
 ⟨⟨.no,.mv (.t P6_19),some P6_4⟩,.val,1,1⟩])
 (.seq (.seq (.reg [⟨.no,.mv (.t P6_4),some P6_20⟩,
 ⟨.no,.eq .int (.t P6_20) (.c (.int .i64 (.ofNat 0))),some P6_21⟩,
 ⟨.no,.mv (.t P6_21),some P6_22⟩,
 ⟨(.on P6_22 true),.mv (.t P6_3),some P6_23⟩,
 ⟨(.on P6_22 true),.bin .gtr (.t P6_23) (.c (.int .u64 (.ofNat 1))),some P6_24⟩,
 ⟨.no,.pick (.t P6_22) (.t P6_24) (.c (.bool false)),some P6_25⟩])
 (.cond (.t P6_25) (.reg [⟨.no,.mv (.c (.int .i64 (.ofNat 6))),some P6_4⟩])
 .skip))
 (.seq (.seq (.reg [⟨.no,.mv (.t P6_4),some P6_26⟩,
 ⟨.no,.ne .int (.t P6_26) (.c (.int .i64 (.ofNat 0))),some P6_27⟩])
 (.cond (.t P6_27) (.seq (.reg [⟨.no,.mv (.t P6_0),some P6_28⟩,
 ⟨.no,.mv (.t P6_4),some P6_29⟩,
 ⟨.no,.nilc (.t P6_28),some P6_30⟩,
 ⟨.no,.faddr 2 1 (.t P6_30),some P6_31⟩,
 ⟨.no,.store 1 (.t P6_31) (.t P6_29),none⟩])
 (.seq (.reg [⟨.no,.mv (.c (.bool false)),some P6_2⟩])
 .ret))
 .skip))
 (.seq (.reg [⟨.no,.mv (.t P6_0),some P6_32⟩,
 ⟨.no,.nilc (.t P6_32),some P6_33⟩,
 ⟨.no,.faddr 1 1 (.t P6_33),some P6_34⟩,
 ⟨.no,.load false 1 (.t P6_34),some P6_35⟩,
 ⟨.no,.bin .add (.t P6_35) (.c (.int .i64 (.ofNat 1))),some P6_36⟩,
 ⟨.no,.nilc (.t P6_32),some P6_37⟩,
 ⟨.no,.faddr 1 1 (.t P6_37),some P6_38⟩,
 ⟨.no,.store 1 (.t P6_38) (.t P6_36),none⟩])
 (.seq (.reg [⟨.no,.mv (.t P6_3),some P6_39⟩,
 ⟨.no,.eq .int (.t P6_39) (.c (.int .u64 (.ofNat 1))),some P6_40⟩,
 ⟨.no,.mv (.t P6_40),some P6_2⟩])
 .ret))))))), [.t P6_2], 0, false, false⟩
noncomputable def rf_slices_BinarySearchFunc_api_Item_api_Entry : RFn := ⟨apOf 6 0 3, mkU 6, (.seq (.reg [⟨.no,.box (.t P6_1),some P6_4⟩,
 ⟨.no,.mv (.c (.int .i64 (.ofNat 0))),some P6_6⟩,
 ⟨.no,.mv (.c (.bool false)),some P6_7⟩])
 (.seq (.reg [⟨.no,.mv (.t P6_0),some P6_12⟩,
 ⟨.no,.len .sl (.t P6_12),some P6_13⟩,
 ⟨.no,.mv (.t P6_13),some P6_8⟩])
 (.seq (.reg [⟨.no,.mv (.t P6_8),some P6_14⟩,
 ⟨.no,.mv (.c (.int .i64 (.ofNat 0))),some P6_9⟩,
 ⟨.no,.mv (.t P6_14),some P6_10⟩])
 (.seq (.block 0 (.loop (.seq (.seq (.reg [⟨.no,.mv (.t P6_9),some P6_15⟩,
 ⟨.no,.mv (.t P6_10),some P6_16⟩,
 ⟨.no,.bin .lss (.t P6_15) (.t P6_16),some P6_17⟩])
 (.cond (.t P6_17) .skip
 (.exit 0)))
 (.block 1 (.seq (.reg [⟨.no,.mv (.t P6_9),some P6_18⟩,
 ⟨.no,.mv (.t P6_10),some P6_19⟩,
 ⟨.no,.bin .add (.t P6_18) (.t P6_19),some P6_20⟩,
 ⟨.no,.conv (.toInt .u64) (.t P6_20),some P6_21⟩,
 ⟨.no,.bin .shr (.t P6_21) (.c (.int .u64 (.ofNat 1))),some P6_22⟩,
 ⟨.no,.conv (.toInt .i64) (.t P6_22),some P6_23⟩,
 ⟨.no,.mv (.t P6_23),some P6_11⟩])
 (.seq (.draw [] 9 [⟨⟨.no,.mv (.t P6_2),some P6_24⟩,.val,0,0⟩,
 ⟨⟨.no,.mv (.t P6_0),some P6_25⟩,.val,0,0⟩,
 ⟨⟨.no,.mv (.t P6_11),some P6_26⟩,.val,0,0⟩,
 ⟨⟨.no,.ixSl 4 (.t P6_25) (.t P6_26),some P6_27⟩,.val,0,0⟩,
 ⟨⟨.no,.load true 4 (.t P6_27),some P6_28⟩,.read,0,0⟩,
 ⟨⟨.no,.load true 3 (.t P6_4),some P6_29⟩,.read,0,0⟩,
 ⟨⟨.no,.call (.t P6_24) [(.t P6_28),(.t P6_29)],some P6_30⟩,.eff,0,1⟩,
 ⟨⟨.no,.bin .lss (.t P6_30) (.c (.int .i64 (.ofNat 0))),some P6_31⟩,.val,1,1⟩])
 (.cond (.t P6_31) (.reg [⟨.no,.mv (.t P6_11),some P6_32⟩,
 ⟨.no,.bin .add (.t P6_32) (.c (.int .i64 (.ofNat 1))),some P6_33⟩,
 ⟨.no,.mv (.t P6_33),some P6_9⟩])
 (.reg [⟨.no,.mv (.t P6_11),some P6_34⟩,
 ⟨.no,.mv (.t P6_34),some P6_10⟩]))))))))
 (.seq (.draw [] 17 [⟨⟨.no,.mv (.t P6_9),some P6_35⟩,.val,0,1⟩,
 ⟨⟨.no,.mv (.t P6_9),some P6_36⟩,.val,0,0⟩,
 ⟨⟨.no,.mv (.t P6_8),some P6_37⟩,.val,0,0⟩,
 ⟨⟨.no,.bin .lss (.t P6_36) (.t P6_37),some P6_38⟩,.val,0,0⟩,
 ⟨⟨.no,.mv (.t P6_38),some P6_39⟩,.val,0,0⟩,
 ⟨⟨(.on P6_39 true),.mv (.t P6_2),some P6_40⟩,.val,0,0⟩,
 ⟨⟨(.on P6_39 true),.mv (.t P6_0),some P6_41⟩,.val,0,0⟩,
 ⟨⟨(.on P6_39 true),.mv (.t P6_9),some P6_42⟩,.val,0,0⟩,
 ⟨⟨(.on P6_39 true),.ixSl 4 (.t P6_41) (.t P6_42),some P6_43⟩,.val,0,0⟩,
 ⟨⟨(.on P6_39 true),.load true 4 (.t P6_43),some P6_44⟩,.read,0,0⟩,
 ⟨⟨(.on P6_39 true),.load true 3 (.t P6_4),some P6_45⟩,.read,0,0⟩,
 ⟨⟨(.on P6_39 true),.call (.t P6_40) [(.t P6_44),(.t P6_45)],some P6_46⟩,.eff,0,1⟩,
 ⟨⟨(.on P6_39 true),.eq .int (.t P6_46) (.c (.int .i64 (.ofNat 0))),some P6_47⟩,.val,1,1⟩,
 ⟨⟨.no,.pick (.t P6_39) (.t P6_47) (.c (.bool false)),some P6_48⟩,.val,1,1⟩,
 ⟨⟨.no,.mv (.t P6_35),some P6_6⟩,.val,1,1⟩,
 ⟨⟨.no,.mv (.t P6_48),some P6_7⟩,.val,1,1⟩])
 .ret))))), [.t P6_6,.t P6_7], 0, false, false⟩
noncomputable def rf_node_leafSlot : RFn := ⟨apOf 4 0 1, mkU 4, (.seq (.reg [⟨.no,.box (.t P4_0),some P4_1⟩,
 ⟨.no,.mv (.c (.str [])),some P4_2⟩])
 (.seq (.reg [⟨.no,.call (.c (.fn f_raw_NewWriter [] [])) [],some P4_4⟩,
 ⟨.no,.mv (.t P4_4),some P4_3⟩])
 (.seq (.reg [⟨.no,.mv (.t P4_3),some P4_5⟩,
 ⟨.no,.faddr 3 1 (.t P4_1),some P4_6⟩,
 ⟨.no,.load false 1 (.t P4_6),some P4_7⟩,
 ⟨.no,.call (.c (.fn f_raw_Writer_Bool [] [])) [(.t P4_5),(.t P4_7)],some P4_8⟩])
 (.seq (.reg [⟨.no,.mv (.t P4_3),some P4_9⟩,
 ⟨.no,.faddr 0 3 (.t P4_1),some P4_10⟩,
 ⟨.no,.load true 3 (.t P4_10),some P4_11⟩,
 ⟨.no,.call (.c (.fn f_node_put [] [])) [(.t P4_9),(.t P4_11)],some P4_12⟩])
 (.seq (.reg [⟨.no,.mv (.t P4_3),some P4_13⟩,
 ⟨.no,.call (.c (.fn f_raw_Writer_All [] [])) [(.t P4_13)],some P4_14⟩,
 ⟨.no,.mv (.t P4_14),some P4_2⟩])
 .ret))))), [.t P4_2], 0, false, false⟩
noncomputable def rf_wal_Log_Kept : RFn := ⟨apOf 4 0 1, mkU 4, (.seq (.reg [⟨.no,.mv (.c (.int .i64 (.ofNat 0))),some P4_2⟩])
 (.seq (.seq (.reg [⟨.no,.mv (.t P4_0),some P4_3⟩,
 ⟨.no,.eq .ptr (.t P4_3) (.c .nilp),some P4_4⟩])
 (.cond (.t P4_4) (.seq (.reg [⟨.no,.mv (.c (.int .i64 (.ofNat 0))),some P4_2⟩])
 .ret)
 .skip))
 (.seq (.reg [⟨.no,.mv (.t P4_0),some P4_5⟩,
 ⟨.no,.nilc (.t P4_5),some P4_6⟩,
 ⟨.no,.faddr 5 1 (.t P4_6),some P4_7⟩,
 ⟨.no,.load false 1 (.t P4_7),some P4_8⟩,
 ⟨.no,.mv (.t P4_8),some P4_2⟩])
 .ret))), [.t P4_2], 0, false, false⟩
noncomputable def rf_wal_Log_Spend : RFn := ⟨apOf 5 0 2, mkU 5, (.seq (.reg [⟨.no,.mv (.c (.int .u64 (.ofNat 0))),some P5_4⟩,
 ⟨.no,.mv (.c (.int .i64 (.ofNat 0))),some P5_5⟩])
 (.seq (.reg [⟨.no,.mv (.t P5_0),some P5_9⟩,
 ⟨.no,.mv (.t P5_1),some P5_10⟩,
 ⟨.no,.call (.c (.fn f_wal_Log_add [] [])) [(.t P5_9),(.t P5_10),(.c (.int .i64 (.ofNat 0)))],some P5_11⟩,
 ⟨.no,.mv (.t P5_11),some P5_8⟩,
 ⟨.no,.extr (.t P5_8) 0,some P5_12⟩,
 ⟨.no,.extr (.t P5_8) 1,some P5_13⟩,
 ⟨.no,.mv (.t P5_12),some P5_6⟩,
 ⟨.no,.mv (.t P5_13),some P5_7⟩])
 (.seq (.seq (.reg [⟨.no,.mv (.t P5_7),some P5_14⟩,
 ⟨.no,.eq .int (.t P5_14) (.c (.int .i64 (.ofNat 0))),some P5_15⟩])
 (.cond (.t P5_15) (.reg [⟨.no,.mv (.t P5_0),some P5_16⟩,
 ⟨.no,.mv (.t P5_1),some P5_17⟩,
 ⟨.no,.len .str (.t P5_17),some P5_18⟩,
 ⟨.no,.bin .add (.t P5_18) (.c (.int .i64 (.ofNat 12))),some P5_19⟩,
 ⟨.no,.call (.c (.fn f_wal_Log_Give [] [])) [(.t P5_16),(.t P5_19)],some P5_20⟩])
 .skip))
 (.seq (.reg [⟨.no,.mv (.t P5_6),some P5_21⟩,
 ⟨.no,.mv (.t P5_7),some P5_22⟩,
 ⟨.no,.mv (.t P5_21),some P5_4⟩,
 ⟨.no,.mv (.t P5_22),some P5_5⟩])
 .ret)))), [.t P5_4,.t P5_5], 0, false, false⟩
noncomputable def rf_wal_Log_Append : RFn := ⟨apOf 4 0 2, mkU 4, (.seq (.reg [⟨.no,.mv (.c (.int .u64 (.ofNat 0))),some P4_4⟩,
 ⟨.no,.mv (.c (.int .i64 (.ofNat 0))),some P4_5⟩])
 (.seq (.reg [⟨.no,.mv (.t P4_0),some P4_6⟩,
 ⟨.no,.mv (.t P4_1),some P4_7⟩,
 ⟨.no,.mv (.t P4_0),some P4_8⟩,
 ⟨.no,.call (.c (.fn f_wal_Log_Kept [] [])) [(.t P4_8)],some P4_9⟩,
 ⟨.no,.call (.c (.fn f_wal_Log_add [] [])) [(.t P4_6),(.t P4_7),(.t P4_9)],some P4_10⟩,
 ⟨.no,.extr (.t P4_10) 0,some P4_11⟩,
 ⟨.no,.extr (.t P4_10) 1,some P4_12⟩,
 ⟨.no,.mv (.t P4_11),some P4_4⟩,
 ⟨.no,.mv (.t P4_12),some P4_5⟩])
 .ret)), [.t P4_4,.t P4_5], 0, false, false⟩
noncomputable def rf_wal_Log_Flushed : RFn := ⟨apOf 5 0 1, mkU 5, (.seq (.reg [⟨.no,.mv (.c (.int .u64 (.ofNat 0))),some P5_2⟩])
 (.seq (.block 0 (.seq (.reg [⟨.no,.mv (.t P5_0),some P5_4⟩,
 ⟨.no,.eq .ptr (.t P5_4) (.c .nilp),some P5_5⟩,
 ⟨.no,.mv (.t P5_5),some P5_3⟩])
 (.cond (.t P5_3) (.seq (.reg [⟨.no,.mv (.c (.int .u64 (.ofNat 0))),some P5_2⟩])
 .ret)
 (.seq (.draw [] 12 [⟨⟨.no,.mv (.t P5_0),some P5_7⟩,.val,0,0⟩,
 ⟨⟨.no,.nilc (.t P5_7),some P5_8⟩,.val,0,0⟩,
 ⟨⟨.no,.faddr 4 1 (.t P5_8),some P5_9⟩,.val,0,0⟩,
 ⟨⟨.no,.load false 1 (.t P5_9),some P5_10⟩,.read,0,0⟩,
 ⟨⟨.no,.mv (.t P5_0),some P5_11⟩,.val,0,0⟩,
 ⟨⟨.no,.nilc (.t P5_11),some P5_12⟩,.val,0,0⟩,
 ⟨⟨.no,.faddr 2 1 (.t P5_12),some P5_13⟩,.val,0,0⟩,
 ⟨⟨.no,.load false 1 (.t P5_13),some P5_14⟩,.read,0,0⟩,
 ⟨⟨.no,.len .sl (.t P5_14),some P5_15⟩,.read,0,0⟩,
 ⟨⟨.no,.bin .lss (.t P5_10) (.t P5_15),some P5_16⟩,.val,0,0⟩,
 ⟨⟨.no,.mv (.t P5_16),some P5_6⟩,.val,0,0⟩])
 (.cond (.t P5_6) (.seq (.draw [] 12 [⟨⟨.no,.mv (.t P5_0),some P5_17⟩,.val,0,0⟩,
 ⟨⟨.no,.nilc (.t P5_17),some P5_18⟩,.val,0,0⟩,
 ⟨⟨.no,.faddr 2 1 (.t P5_18),some P5_19⟩,.val,0,0⟩,
 ⟨⟨.no,.load false 1 (.t P5_19),some P5_20⟩,.read,0,0⟩,
 ⟨⟨.no,.mv (.t P5_0),some P5_21⟩,.val,0,0⟩,
 ⟨⟨.no,.nilc (.t P5_21),some P5_22⟩,.val,0,0⟩,
 ⟨⟨.no,.faddr 4 1 (.t P5_22),some P5_23⟩,.val,0,0⟩,
 ⟨⟨.no,.load false 1 (.t P5_23),some P5_24⟩,.read,0,0⟩,
 ⟨⟨.no,.ixSl 1 (.t P5_20) (.t P5_24),some P5_25⟩,.val,0,0⟩,
 ⟨⟨.no,.load false 1 (.t P5_25),some P5_26⟩,.read,0,0⟩,
 ⟨⟨.no,.mv (.t P5_26),some P5_2⟩,.val,0,0⟩])
 .ret)
 .skip)))))
 (.seq (.reg [⟨.no,.mv (.t P5_0),some P5_27⟩,
 ⟨.no,.nilc (.t P5_27),some P5_28⟩,
 ⟨.no,.faddr 3 1 (.t P5_28),some P5_29⟩,
 ⟨.no,.load false 1 (.t P5_29),some P5_30⟩,
 ⟨.no,.mv (.t P5_30),some P5_2⟩])
 .ret))), [.t P5_2], 0, false, false⟩
noncomputable def rf_disk_Disk_AppendLog : RFn := ⟨apOf 6 0 2, mkU 6, (.seq (.reg [⟨.no,.mv (.c (.int .i64 (.ofNat 0))),some P6_4⟩])
 (.seq (.block 0 (.seq (.reg [⟨.no,.mv (.t P6_0),some P6_6⟩,
 ⟨.no,.call (.c (.fn f_disk_Disk_Dead [] [])) [(.t P6_6)],some P6_7⟩,
 ⟨.no,.mv (.t P6_7),some P6_5⟩])
 (.cond (.t P6_5) (.seq (.reg [⟨.no,.mv (.c (.int .i64 (.ofNat 7))),some P6_4⟩])
 .ret)
 (.seq (.draw [] 17 [⟨⟨.no,.mv (.t P6_1),some P6_9⟩,.val,0,0⟩,
 ⟨⟨.no,.len .str (.t P6_9),some P6_10⟩,.read,0,0⟩,
 ⟨⟨.no,.mv (.t P6_0),some P6_11⟩,.val,0,0⟩,
 ⟨⟨.no,.nilc (.t P6_11),some P6_12⟩,.val,0,0⟩,
 ⟨⟨.no,.faddr 4 1 (.t P6_12),some P6_13⟩,.val,0,0⟩,
 ⟨⟨.no,.load false 1 (.t P6_13),some P6_14⟩,.read,0,0⟩,
 ⟨⟨.no,.len .str (.t P6_14),some P6_15⟩,.read,0,0⟩,
 ⟨⟨.no,.bin .sub (.c (.int .i64 (.ofNat 4194304))) (.t P6_15),some P6_16⟩,.val,0,0⟩,
 ⟨⟨.no,.mv (.t P6_0),some P6_17⟩,.val,0,0⟩,
 ⟨⟨.no,.nilc (.t P6_17),some P6_18⟩,.val,0,0⟩,
 ⟨⟨.no,.faddr 5 1 (.t P6_18),some P6_19⟩,.val,0,0⟩,
 ⟨⟨.no,.load false 1 (.t P6_19),some P6_20⟩,.read,0,0⟩,
 ⟨⟨.no,.len .str (.t P6_20),some P6_21⟩,.read,0,0⟩,
 ⟨⟨.no,.bin .sub (.t P6_16) (.t P6_21),some P6_22⟩,.val,0,0⟩,
 ⟨⟨.no,.bin .gtr (.t P6_10) (.t P6_22),some P6_23⟩,.val,0,0⟩,
 ⟨⟨.no,.mv (.t P6_23),some P6_8⟩,.val,0,0⟩])
 (.cond (.t P6_8) (.seq (.reg [⟨.no,.mv (.c (.int .i64 (.ofNat 20))),some P6_4⟩])
 .ret)
 (.seq (.reg [⟨.no,.mv (.t P6_0),some P6_25⟩,
 ⟨.no,.call (.c (.fn f_disk_Disk_strikes [] [])) [(.t P6_25)],some P6_26⟩,
 ⟨.no,.mv (.t P6_26),some P6_24⟩])
 (.cond (.t P6_24) (.seq (.reg [⟨.no,.mv (.c (.int .i64 (.ofNat 7))),some P6_4⟩])
 .ret)
 .skip)))))))
 (.seq (.reg [⟨.no,.mv (.t P6_0),some P6_27⟩,
 ⟨.no,.nilc (.t P6_27),some P6_28⟩,
 ⟨.no,.faddr 5 1 (.t P6_28),some P6_29⟩,
 ⟨.no,.load false 1 (.t P6_29),some P6_30⟩,
 ⟨.no,.mv (.t P6_1),some P6_31⟩,
 ⟨.no,.bin .add (.t P6_30) (.t P6_31),some P6_32⟩,
 ⟨.no,.nilc (.t P6_27),some P6_33⟩,
 ⟨.no,.faddr 5 1 (.t P6_33),some P6_34⟩,
 ⟨.no,.store 1 (.t P6_34) (.t P6_32),none⟩])
 (.seq (.reg [⟨.no,.mv (.c (.int .i64 (.ofNat 0))),some P6_4⟩])
 .ret)))), [.t P6_4], 0, false, false⟩
noncomputable def rf_heap_Scan : RFn := ⟨apOf 7 0 2, mkU 7, (.seq (.reg [⟨.no,.mv (.c (.sl 0 [] .nil)),some P7_4⟩,
 ⟨.no,.mv (.c (.int .i64 (.ofNat 0))),some P7_5⟩])
 (.seq (.reg [⟨.no,.mv (.t P7_0),some P7_18⟩,
 ⟨.no,.mv (.t P7_1),some P7_19⟩,
 ⟨.no,.call (.c (.fn f_heap_Pages [] [])) [(.t P7_18),(.t P7_19)],some P7_20⟩,
 ⟨.no,.mv (.t P7_20),some P7_17⟩,
 ⟨.no,.extr (.t P7_17) 0,some P7_21⟩,
 ⟨.no,.extr (.t P7_17) 1,some P7_22⟩,
 ⟨.no,.mv (.t P7_21),some P7_6⟩,
 ⟨.no,.mv (.t P7_22),some P7_7⟩])
 (.seq (.seq (.reg [⟨.no,.mv (.t P7_7),some P7_23⟩,
 ⟨.no,.ne .int (.t P7_23) (.c (.int .i64 (.ofNat 0))),some P7_24⟩])
 (.cond (.t P7_24) (.seq (.reg [⟨.no,.mv (.t P7_7),some P7_25⟩,
 ⟨.no,.mv (.c (.sl 0 [] .nil)),some P7_4⟩,
 ⟨.no,.mv (.t P7_25),some P7_5⟩])
 .ret)
 .skip))
 (.seq (.reg [⟨.no,.mv (.c (.sl 0 [] .nil)),some P7_8⟩])
 (.seq (.seq (.reg [⟨.no,.mv (.t P7_6),some P7_26⟩,
 ⟨.no,.len .sl (.t P7_26),some P7_27⟩,
 ⟨.no,.mv (.c (.int .i64 (.ofNat 0))),some P7_28⟩])
 (.block 0 (.loop (.seq (.reg [⟨.no,.bin .lss (.t P7_28) (.t P7_27),some P7_29⟩])
 (.seq (.cond (.t P7_29) .skip
 (.exit 0))
 (.seq (.block 1 (.seq (.reg [⟨.no,.ixSl 1 (.t P7_26) (.t P7_28),some P7_30⟩,
 ⟨.no,.load false 1 (.t P7_30),some P7_31⟩,
 ⟨.no,.mv (.t P7_31),some P7_10⟩])
 (.seq (.reg [⟨.no,.mv (.t P7_0),some P7_33⟩,
 ⟨.no,.call (.c (.fn f_txn_Manager_Pool [] [])) [(.t P7_33)],some P7_34⟩,
 ⟨.no,.mv (.t P7_10),some P7_35⟩,
 ⟨.no,.call (.c (.fn f_pool_Pool_Get [] [])) [(.t P7_34),(.t P7_35)],some P7_36⟩,
 ⟨.no,.mv (.t P7_36),some P7_32⟩,
 ⟨.no,.extr (.t P7_32) 0,some P7_37⟩,
 ⟨.no,.extr (.t P7_32) 1,some P7_38⟩,
 ⟨.no,.alloc [(.int .u32 (.ofNat 0)),(.int .u64 (.ofNat 0)),(.int .i64 (.ofNat 0)),(.str []),(.sl 0 [] .nil)],some P7_11⟩,
 ⟨.no,.store 5 (.t P7_11) (.t P7_37),none⟩,
 ⟨.no,.mv (.t P7_38),some P7_12⟩])
 (.seq (.seq (.reg [⟨.no,.mv (.t P7_12),some P7_39⟩,
 ⟨.no,.ne .int (.t P7_39) (.c (.int .i64 (.ofNat 0))),some P7_40⟩])
 (.cond (.t P7_40) (.seq (.reg [⟨.no,.mv (.t P7_12),some P7_41⟩,
 ⟨.no,.mv (.c (.sl 0 [] .nil)),some P7_4⟩,
 ⟨.no,.mv (.t P7_41),some P7_5⟩])
 .ret)
 .skip))
 (.seq (.reg [⟨.no,.faddr 4 1 (.t P7_11),some P7_42⟩,
 ⟨.no,.load false 1 (.t P7_42),some P7_43⟩,
 ⟨.no,.len .sl (.t P7_43),some P7_44⟩,
 ⟨.no,.mv (.c (.int .i64 (.ofNat 0))),some P7_45⟩])
 (.block 2 (.loop (.seq (.reg [⟨.no,.bin .lss (.t P7_45) (.t P7_44),some P7_46⟩])
 (.seq (.cond (.t P7_46) .skip
 (.exit 2))
 (.seq (.block 3 (.seq (.reg [⟨.no,.mv (.t P7_45),some P7_47⟩,
 ⟨.no,.ixSl 1 (.t P7_43) (.t P7_45),some P7_48⟩,
 ⟨.no,.load false 1 (.t P7_48),some P7_49⟩,
 ⟨.no,.mv (.t P7_47),some P7_13⟩,
 ⟨.no,.mv (.t P7_49),some P7_14⟩])
 (.seq (.reg [⟨.no,.mv (.t P7_14),some P7_51⟩,
 ⟨.no,.call (.c (.fn f_heap_taken [] [])) [(.t P7_51)],some P7_52⟩,
 ⟨.no,.mv (.t P7_52),some P7_50⟩,
 ⟨.no,.extr (.t P7_50) 0,some P7_53⟩,
 ⟨.no,.extr (.t P7_50) 1,some P7_54⟩,
 ⟨.no,.mv (.t P7_53),some P7_15⟩,
 ⟨.no,.mv (.t P7_54),some P7_16⟩])
 (.seq (.reg [⟨.no,.mv (.t P7_16),some P7_55⟩])
 (.cond (.t P7_55) (.reg [⟨.no,.mv (.t P7_8),some P7_56⟩,
 ⟨.no,.mv (.t P7_10),some P7_57⟩,
 ⟨.no,.mv (.t P7_13),some P7_58⟩,
 ⟨.no,.build [(.int .u32 (.ofNat 0)),(.int .i64 (.ofNat 0))] [(0,1,(.t P7_57)),(1,1,(.t P7_58))],some P7_59⟩,
 ⟨.no,.mv (.t P7_15),some P7_60⟩,
 ⟨.no,.build [(.int .u32 (.ofNat 0)),(.int .i64 (.ofNat 0)),(.str [])] [(0,2,(.t P7_59)),(2,1,(.t P7_60))],some P7_61⟩,
 ⟨.no,.buildSl 1 [(.int .u32 (.ofNat 0)),(.int .i64 (.ofNat 0)),(.str [])] [(0,3,(.t P7_61))],some P7_62⟩,
 ⟨.no,.app 3 32 false (.t P7_56) (.t P7_62),some P7_63⟩,
 ⟨.no,.mv (.t P7_63),some P7_8⟩])
 .skip)))))
 (.reg [⟨.no,.bin .add (.t P7_45) (.c (.int .i64 (.ofNat 1))),some P7_64⟩,
 ⟨.no,.mv (.t P7_64),some P7_45⟩])))))))))))
 (.reg [⟨.no,.bin .add (.t P7_28) (.c (.int .i64 (.ofNat 1))),some P7_65⟩,
 ⟨.no,.mv (.t P7_65),some P7_28⟩])))))))
 (.seq (.reg [⟨.no,.mv (.t P7_8),some P7_66⟩,
 ⟨.no,.mv (.t P7_66),some P7_4⟩,
 ⟨.no,.mv (.c (.int .i64 (.ofNat 0))),some P7_5⟩])
 .ret)))))), [.t P7_4,.t P7_5], 0, false, false⟩
noncomputable def rf_slices_pdqsortCmpFunc_api_Table : RFn := ⟨apOf 8 0 5, mkU 8, (.seq (.reg [⟨.no,.mv (.c (.bool true)),some P8_10⟩])
 (.seq (.reg [⟨.no,.mv (.c (.bool true)),some P8_11⟩])
 (.block 0 (.loop (.block 1 (.seq (.reg [⟨.no,.mv (.t P8_2),some P8_21⟩,
 ⟨.no,.mv (.t P8_1),some P8_22⟩,
 ⟨.no,.bin .sub (.t P8_21) (.t P8_22),some P8_23⟩,
 ⟨.no,.mv (.t P8_23),some P8_12⟩])
 (.seq (.seq (.reg [⟨.no,.mv (.t P8_12),some P8_24⟩,
 ⟨.no,.bin .leq (.t P8_24) (.c (.int .i64 (.ofNat 12))),some P8_25⟩])
 (.cond (.t P8_25) (.seq (.reg [⟨.no,.mv (.t P8_0),some P8_26⟩,
 ⟨.no,.mv (.t P8_1),some P8_27⟩,
 ⟨.no,.mv (.t P8_2),some P8_28⟩,
 ⟨.no,.mv (.t P8_4),some P8_29⟩,
 ⟨.no,.call (.c (.fn f_slices_insertionSortCmpFunc_api_Table [] [])) [(.t P8_26),(.t P8_27),(.t P8_28),(.t P8_29)],some P8_30⟩])
 .ret)
 .skip))
 (.seq (.seq (.reg [⟨.no,.mv (.t P8_3),some P8_31⟩,
 ⟨.no,.eq .int (.t P8_31) (.c (.int .i64 (.ofNat 0))),some P8_32⟩])
 (.cond (.t P8_32) (.seq (.reg [⟨.no,.mv (.t P8_0),some P8_33⟩,
 ⟨.no,.mv (.t P8_1),some P8_34⟩,
 ⟨.no,.mv (.t P8_2),some P8_35⟩,
 ⟨.no,.mv (.t P8_4),some P8_36⟩,
 ⟨.no,.call (.c (.fn f_slices_heapSortCmpFunc_api_Table [] [])) [(.t P8_33),(.t P8_34),(.t P8_35),(.t P8_36)],some P8_37⟩])
 .ret)
 .skip))
 (.seq (.seq (.reg [⟨.no,.mv (.t P8_10),some P8_38⟩,
 ⟨.no,.un .not (.t P8_38),some P8_39⟩])
 (.cond (.t P8_39) (.seq (.reg [⟨.no,.mv (.t P8_0),some P8_40⟩,
 ⟨.no,.mv (.t P8_1),some P8_41⟩,
 ⟨.no,.mv (.t P8_2),some P8_42⟩,
 ⟨.no,.mv (.t P8_4),some P8_43⟩,
 ⟨.no,.call (.c (.fn f_slices_breakPatternsCmpFunc_api_Table [] [])) [(.t P8_40),(.t P8_41),(.t P8_42),(.t P8_43)],some P8_44⟩])
 (.reg [⟨.no,.mv (.t P8_3),some P8_45⟩,
 ⟨.no,.bin .sub (.t P8_45) (.c (.int .i64 (.ofNat 1))),some P8_46⟩,
 ⟨.no,.mv (.t P8_46),some P8_3⟩]))
 .skip))
 (.seq (.reg [⟨.no,.mv (.t P8_0),some P8_48⟩,
 ⟨.no,.mv (.t P8_1),some P8_49⟩,
 ⟨.no,.mv (.t P8_2),some P8_50⟩,
 ⟨.no,.mv (.t P8_4),some P8_51⟩,
 ⟨.no,.call (.c (.fn f_slices_choosePivotCmpFunc_api_Table [] [])) [(.t P8_48),(.t P8_49),(.t P8_50),(.t P8_51)],some P8_52⟩,
 ⟨.no,.mv (.t P8_52),some P8_47⟩,
 ⟨.no,.extr (.t P8_47) 0,some P8_53⟩,
 ⟨.no,.extr (.t P8_47) 1,some P8_54⟩,
 ⟨.no,.mv (.t P8_53),some P8_13⟩,
 ⟨.no,.mv (.t P8_54),some P8_14⟩])
 (.seq (.seq (.reg [⟨.no,.mv (.t P8_14),some P8_55⟩,
 ⟨.no,.eq .int (.t P8_55) (.c (.int .i64 (.ofNat 2))),some P8_56⟩])
 (.cond (.t P8_56) (.seq (.reg [⟨.no,.mv (.t P8_0),some P8_57⟩,
 ⟨.no,.mv (.t P8_1),some P8_58⟩,
 ⟨.no,.mv (.t P8_2),some P8_59⟩,
 ⟨.no,.mv (.t P8_4),some P8_60⟩,
 ⟨.no,.call (.c (.fn f_slices_reverseRangeCmpFunc_api_Table [] [])) [(.t P8_57),(.t P8_58),(.t P8_59),(.t P8_60)],some P8_61⟩])
 (.seq (.reg [⟨.no,.mv (.t P8_2),some P8_62⟩,
 ⟨.no,.bin .sub (.t P8_62) (.c (.int .i64 (.ofNat 1))),some P8_63⟩,
 ⟨.no,.mv (.t P8_13),some P8_64⟩,
 ⟨.no,.mv (.t P8_1),some P8_65⟩,
 ⟨.no,.bin .sub (.t P8_64) (.t P8_65),some P8_66⟩,
 ⟨.no,.bin .sub (.t P8_63) (.t P8_66),some P8_67⟩,
 ⟨.no,.mv (.t P8_67),some P8_13⟩])
 (.reg [⟨.no,.mv (.c (.int .i64 (.ofNat 1))),some P8_14⟩])))
 .skip))
 (.seq (.seq (.reg [⟨.no,.mv (.t P8_10),some P8_68⟩,
 ⟨.no,.mv (.t P8_68),some P8_69⟩,
 ⟨(.on P8_69 true),.mv (.t P8_11),some P8_70⟩,
 ⟨.no,.pick (.t P8_69) (.t P8_70) (.c (.bool false)),some P8_71⟩,
 ⟨.no,.mv (.t P8_71),some P8_72⟩,
 ⟨(.on P8_72 true),.mv (.t P8_14),some P8_73⟩,
 ⟨(.on P8_72 true),.eq .int (.t P8_73) (.c (.int .i64 (.ofNat 1))),some P8_74⟩,
 ⟨.no,.pick (.t P8_72) (.t P8_74) (.c (.bool false)),some P8_75⟩])
 (.cond (.t P8_75) (.seq (.reg [⟨.no,.mv (.t P8_0),some P8_76⟩,
 ⟨.no,.mv (.t P8_1),some P8_77⟩,
 ⟨.no,.mv (.t P8_2),some P8_78⟩,
 ⟨.no,.mv (.t P8_4),some P8_79⟩,
 ⟨.no,.call (.c (.fn f_slices_partialInsertionSortCmpFunc_api_Table [] [])) [(.t P8_76),(.t P8_77),(.t P8_78),(.t P8_79)],some P8_80⟩])
 (.cond (.t P8_80) .ret
 .skip))
 .skip))
 (.seq (.seq (.draw [] 18 [⟨⟨.no,.mv (.t P8_1),some P8_81⟩,.val,0,0⟩,
 ⟨⟨.no,.bin .gtr (.t P8_81) (.c (.int .i64 (.ofNat 0))),some P8_82⟩,.val,0,0⟩,
 ⟨⟨.no,.mv (.t P8_82),some P8_83⟩,.val,0,0⟩,
 ⟨⟨(.on P8_83 true),.mv (.t P8_4),some P8_84⟩,.val,0,0⟩,
 ⟨⟨(.on P8_83 true),.mv (.t P8_0),some P8_85⟩,.val,0,0⟩,
 ⟨⟨(.on P8_83 true),.mv (.t P8_1),some P8_86⟩,.val,0,0⟩,
 ⟨⟨(.on P8_83 true),.bin .sub (.t P8_86) (.c (.int .i64 (.ofNat 1))),some P8_87⟩,.val,0,0⟩,
 ⟨⟨(.on P8_83 true),.ixSl 5 (.t P8_85) (.t P8_87),some P8_88⟩,.val,0,0⟩,
 ⟨⟨(.on P8_83 true),.load true 5 (.t P8_88),some P8_89⟩,.read,0,0⟩,
 ⟨⟨(.on P8_83 true),.mv (.t P8_0),some P8_90⟩,.val,0,0⟩,
 ⟨⟨(.on P8_83 true),.mv (.t P8_13),some P8_91⟩,.val,0,0⟩,
 ⟨⟨(.on P8_83 true),.ixSl 5 (.t P8_90) (.t P8_91),some P8_92⟩,.val,0,0⟩,
 ⟨⟨(.on P8_83 true),.load true 5 (.t P8_92),some P8_93⟩,.read,0,0⟩,
 ⟨⟨(.on P8_83 true),.call (.t P8_84) [(.t P8_89),(.t P8_93)],some P8_94⟩,.eff,0,1⟩,
 ⟨⟨(.on P8_83 true),.bin .lss (.t P8_94) (.c (.int .i64 (.ofNat 0))),some P8_95⟩,.val,1,1⟩,
 ⟨⟨(.on P8_83 true),.un .not (.t P8_95),some P8_96⟩,.val,1,1⟩,
 ⟨⟨.no,.pick (.t P8_83) (.t P8_96) (.c (.bool false)),some P8_97⟩,.val,1,1⟩])
 (.cond (.t P8_97) (.seq (.reg [⟨.no,.mv (.t P8_0),some P8_98⟩,
 ⟨.no,.mv (.t P8_1),some P8_99⟩,
 ⟨.no,.mv (.t P8_2),some P8_100⟩,
 ⟨.no,.mv (.t P8_13),some P8_101⟩,
 ⟨.no,.mv (.t P8_4),some P8_102⟩,
 ⟨.no,.call (.c (.fn f_slices_partitionEqualCmpFunc_api_Table [] [])) [(.t P8_98),(.t P8_99),(.t P8_100),(.t P8_101),(.t P8_102)],some P8_103⟩,
 ⟨.no,.mv (.t P8_103),some P8_15⟩])
 (.seq (.reg [⟨.no,.mv (.t P8_15),some P8_104⟩,
 ⟨.no,.mv (.t P8_104),some P8_1⟩])
 (.exit 1)))
 .skip))
 (.seq (.reg [⟨.no,.mv (.t P8_0),some P8_106⟩,
 ⟨.no,.mv (.t P8_1),some P8_107⟩,
 ⟨.no,.mv (.t P8_2),some P8_108⟩,
 ⟨.no,.mv (.t P8_13),some P8_109⟩,
 ⟨.no,.mv (.t P8_4),some P8_110⟩,
 ⟨.no,.call (.c (.fn f_slices_partitionCmpFunc_api_Table [] [])) [(.t P8_106),(.t P8_107),(.t P8_108),(.t P8_109),(.t P8_110)],some P8_111⟩,
 ⟨.no,.mv (.t P8_111),some P8_105⟩,
 ⟨.no,.extr (.t P8_105) 0,some P8_112⟩,
 ⟨.no,.extr (.t P8_105) 1,some P8_113⟩,
 ⟨.no,.mv (.t P8_112),some P8_16⟩,
 ⟨.no,.mv (.t P8_113),some P8_17⟩])
 (.seq (.reg [⟨.no,.mv (.t P8_17),some P8_114⟩,
 ⟨.no,.mv (.t P8_114),some P8_11⟩])
 (.seq (.reg [⟨.no,.mv (.t P8_16),some P8_115⟩,
 ⟨.no,.mv (.t P8_1),some P8_116⟩,
 ⟨.no,.bin .sub (.t P8_115) (.t P8_116),some P8_117⟩,
 ⟨.no,.mv (.t P8_2),some P8_118⟩,
 ⟨.no,.mv (.t P8_16),some P8_119⟩,
 ⟨.no,.bin .sub (.t P8_118) (.t P8_119),some P8_120⟩,
 ⟨.no,.mv (.t P8_117),some P8_18⟩,
 ⟨.no,.mv (.t P8_120),some P8_19⟩])
 (.seq (.reg [⟨.no,.mv (.t P8_12),some P8_121⟩,
 ⟨.no,.bin .quo (.t P8_121) (.c (.int .i64 (.ofNat 8))),some P8_122⟩,
 ⟨.no,.mv (.t P8_122),some P8_20⟩])
 (.seq (.reg [⟨.no,.mv (.t P8_18),some P8_123⟩,
 ⟨.no,.mv (.t P8_19),some P8_124⟩,
 ⟨.no,.bin .lss (.t P8_123) (.t P8_124),some P8_125⟩])
 (.cond (.t P8_125) (.seq (.reg [⟨.no,.mv (.t P8_18),some P8_126⟩,
 ⟨.no,.mv (.t P8_20),some P8_127⟩,
 ⟨.no,.bin .geq (.t P8_126) (.t P8_127),some P8_128⟩,
 ⟨.no,.mv (.t P8_128),some P8_10⟩])
 (.seq (.reg [⟨.no,.mv (.t P8_0),some P8_129⟩,
 ⟨.no,.mv (.t P8_1),some P8_130⟩,
 ⟨.no,.mv (.t P8_16),some P8_131⟩,
 ⟨.no,.mv (.t P8_3),some P8_132⟩,
 ⟨.no,.mv (.t P8_4),some P8_133⟩,
 ⟨.no,.call (.c (.fn f_slices_pdqsortCmpFunc_api_Table [] [])) [(.t P8_129),(.t P8_130),(.t P8_131),(.t P8_132),(.t P8_133)],some P8_134⟩])
 (.reg [⟨.no,.mv (.t P8_16),some P8_135⟩,
 ⟨.no,.bin .add (.t P8_135) (.c (.int .i64 (.ofNat 1))),some P8_136⟩,
 ⟨.no,.mv (.t P8_136),some P8_1⟩])))
 (.seq (.reg [⟨.no,.mv (.t P8_19),some P8_137⟩,
 ⟨.no,.mv (.t P8_20),some P8_138⟩,
 ⟨.no,.bin .geq (.t P8_137) (.t P8_138),some P8_139⟩,
 ⟨.no,.mv (.t P8_139),some P8_10⟩])
 (.seq (.reg [⟨.no,.mv (.t P8_0),some P8_140⟩,
 ⟨.no,.mv (.t P8_16),some P8_141⟩,
 ⟨.no,.bin .add (.t P8_141) (.c (.int .i64 (.ofNat 1))),some P8_142⟩,
 ⟨.no,.mv (.t P8_2),some P8_143⟩,
 ⟨.no,.mv (.t P8_3),some P8_144⟩,
 ⟨.no,.mv (.t P8_4),some P8_145⟩,
 ⟨.no,.call (.c (.fn f_slices_pdqsortCmpFunc_api_Table [] [])) [(.t P8_140),(.t P8_142),(.t P8_143),(.t P8_144),(.t P8_145)],some P8_146⟩])
 (.reg [⟨.no,.mv (.t P8_16),some P8_147⟩,
 ⟨.no,.mv (.t P8_147),some P8_2⟩])))))))))))))))))))))), [], 0, false, false⟩
noncomputable def rf_space_Take : RFn := ⟨apOf 5 0 2, mkU 5, (.seq (.reg [⟨.no,.box (.t P5_0),some P5_2⟩,
 ⟨.no,.mv (.c (.int .u32 (.ofNat 0))),some P5_4⟩,
 ⟨.no,.alloc [(.int .i64 (.ofNat 0)),(.int .i64 (.ofNat 0)),(.str []),(.str [])],some P5_5⟩,
 ⟨.no,.mv (.c (.int .i64 (.ofNat 0))),some P5_6⟩])
 (.seq (.seq (.reg [⟨.no,.load true 5 (.t P5_2),some P5_8⟩,
 ⟨.no,.call (.c (.fn f_space_Is [] [])) [(.t P5_8)],some P5_9⟩,
 ⟨.no,.un .not (.t P5_9),some P5_10⟩])
 (.cond (.t P5_10) (.seq (.reg [⟨.no,.build [(.int .i64 (.ofNat 0)),(.int .i64 (.ofNat 0)),(.str []),(.str [])] [],some P5_11⟩,
 ⟨.no,.mv (.c (.int .u32 (.ofNat 0))),some P5_4⟩,
 ⟨.no,.store 4 (.t P5_5) (.t P5_11),none⟩,
 ⟨.no,.mv (.c (.int .i64 (.ofNat 70))),some P5_6⟩])
 .ret)
 .skip))
 (.seq (.seq (.reg [⟨.no,.mv (.c (.int .u32 (.ofNat 1))),some P5_7⟩])
 (.block 0 (.loop (.seq (.seq (.reg [⟨.no,.mv (.t P5_7),some P5_12⟩,
 ⟨.no,.conv (.toInt .i64) (.t P5_12),some P5_13⟩,
 ⟨.no,.mv (.t P5_1),some P5_14⟩,
 ⟨.no,.min (.t P5_14) (.c (.int .i64 (.ofNat 2048))),some P5_15⟩,
 ⟨.no,.bin .leq (.t P5_13) (.t P5_15),some P5_16⟩])
 (.cond (.t P5_16) .skip
 (.exit 0)))
 (.seq (.block 1 (.seq (.reg [⟨.no,.load true 5 (.t P5_2),some P5_19⟩,
 ⟨.no,.mv (.t P5_7),some P5_20⟩,
 ⟨.no,.call (.c (.fn f_space_Taken [] [])) [(.t P5_19),(.t P5_20)],some P5_21⟩,
 ⟨.no,.un .not (.t P5_21),some P5_22⟩])
 (.cond (.t P5_22) (.seq (.reg [⟨.no,.mv (.t P5_7),some P5_23⟩,
 ⟨.no,.load true 5 (.t P5_2),some P5_24⟩,
 ⟨.no,.mv (.t P5_7),some P5_25⟩,
 ⟨.no,.call (.c (.fn f_space_turn [] [])) [(.t P5_24),(.t P5_25)],some P5_26⟩,
 ⟨.no,.mv (.t P5_23),some P5_4⟩,
 ⟨.no,.store 4 (.t P5_5) (.t P5_26),none⟩,
 ⟨.no,.mv (.c (.int .i64 (.ofNat 0))),some P5_6⟩])
 .ret)
 .skip)))
 (.reg [⟨.no,.mv (.t P5_7),some P5_17⟩,
 ⟨.no,.bin .add (.t P5_17) (.c (.int .u32 (.ofNat 1))),some P5_18⟩,
 ⟨.no,.mv (.t P5_18),some P5_7⟩]))))))
 (.seq (.reg [⟨.no,.build [(.int .i64 (.ofNat 0)),(.int .i64 (.ofNat 0)),(.str []),(.str [])] [],some P5_27⟩,
 ⟨.no,.mv (.c (.int .u32 (.ofNat 0))),some P5_4⟩,
 ⟨.no,.store 4 (.t P5_5) (.t P5_27),none⟩,
 ⟨.no,.mv (.c (.int .i64 (.ofNat 20))),some P5_6⟩])
 .ret)))), [.t P5_4,.cell true 4 P5_5,.t P5_6], 0, false, false⟩
noncomputable def rf_raw_NewWriter : RFn := ⟨apOf 2 0 0, mkU 2, (.seq (.reg [⟨.no,.mv (.c .nilp),some P2_0⟩])
 (.seq (.reg [⟨.no,.build [(.sl 0 [] .nil)] [],some P2_1⟩,
 ⟨.no,.box (.t P2_1),some P2_2⟩,
 ⟨.no,.mv (.t P2_2),some P2_0⟩])
 .ret)), [.t P2_0], 1, false, false⟩
noncomputable def rf_key_Check : RFn := ⟨apOf 6 0 1, mkU 6, (.seq (.reg [⟨.no,.box (.t P6_0),some P6_1⟩,
 ⟨.no,.mv (.c (.int .i64 (.ofNat 0))),some P6_2⟩])
 (.seq (.reg [⟨.no,.mv (.c (.bool false)),some P6_3⟩])
 (.seq (.seq (.reg [⟨.no,.faddr 0 1 (.t P6_1),some P6_4⟩,
 ⟨.no,.load false 1 (.t P6_4),some P6_5⟩])
 (.block 0 (.seq (.reg [⟨.no,.eq .int (.t P6_5) (.c (.int .i64 (.ofNat 0))),some P6_7⟩,
 ⟨.no,.mv (.t P6_7),some P6_6⟩])
 (.cond (.t P6_6) (.reg [⟨.no,.faddr 1 1 (.t P6_1),some P6_8⟩,
 ⟨.no,.load false 1 (.t P6_8),some P6_9⟩,
 ⟨.no,.eq .int (.t P6_9) (.c (.int .i64 (.ofNat 0))),some P6_10⟩,
 ⟨.no,.mv (.t P6_10),some P6_11⟩,
 ⟨(.on P6_11 true),.faddr 2 1 (.t P6_1),some P6_12⟩,
 ⟨(.on P6_11 true),.load false 1 (.t P6_12),some P6_13⟩,
 ⟨(.on P6_11 true),.eq .str (.t P6_13) (.c (.str [])),some P6_14⟩,
 ⟨.no,.pick (.t P6_11) (.t P6_14) (.c (.bool false)),some P6_15⟩,
 ⟨.no,.mv (.t P6_15),some P6_3⟩])
 (.seq (.reg [⟨.no,.eq .int (.t P6_5) (.c (.int .i64 (.ofNat 1))),some P6_17⟩,
 ⟨.no,.mv (.t P6_17),some P6_16⟩])
 (.cond (.t P6_16) (.reg [⟨.no,.faddr 2 1 (.t P6_1),some P6_18⟩,
 ⟨.no,.load false 1 (.t P6_18),some P6_19⟩,
 ⟨.no,.eq .str (.t P6_19) (.c (.str [])),some P6_20⟩,
 ⟨.no,.mv (.t P6_20),some P6_3⟩])
 (.seq (.reg [⟨.no,.eq .int (.t P6_5) (.c (.int .i64 (.ofNat 2))),some P6_22⟩,
 ⟨.no,.mv (.t P6_22),some P6_21⟩])
 (.cond (.t P6_21) (.reg [⟨.no,.faddr 1 1 (.t P6_1),some P6_23⟩,
 ⟨.no,.load false 1 (.t P6_23),some P6_24⟩,
 ⟨.no,.eq .int (.t P6_24) (.c (.int .i64 (.ofNat 0))),some P6_25⟩,
 ⟨.no,.mv (.t P6_25),some P6_26⟩,
 ⟨(.on P6_26 true),.faddr 2 1 (.t P6_1),some P6_27⟩,
 ⟨(.on P6_26 true),.load false 1 (.t P6_27),some P6_28⟩,
 ⟨(.on P6_26 true),.len .str (.t P6_28),some P6_29⟩,
 ⟨(.on P6_26 true),.bin .leq (.t P6_29) (.c (.int .i64 (.ofNat 20))),some P6_30⟩,
 ⟨.no,.pick (.t P6_26) (.t P6_30) (.c (.bool false)),some P6_31⟩,
 ⟨.no,.mv (.t P6_31),some P6_3⟩])
 .skip))))))))
 (.seq (.seq (.reg [⟨.no,.mv (.t P6_3),some P6_32⟩,
 ⟨.no,.un .not (.t P6_32),some P6_33⟩])
 (.cond (.t P6_33) (.seq (.reg [⟨.no,.mv (.c (.int .i64 (.ofNat 110))),some P6_2⟩])
 .ret)
 .skip))
 (.seq (.reg [⟨.no,.mv (.c (.int .i64 (.ofNat 0))),some P6_2⟩])
 .ret))))), [.t P6_2], 0, false, false⟩
noncomputable def rf_heap_taken : RFn := ⟨apOf 4 0 1, mkU 4, (.seq (.reg [⟨.no,.mv (.c (.str [])),some P4_2⟩,
 ⟨.no,.mv (.c (.bool false)),some P4_3⟩])
 (.seq (.reg [⟨.no,.mv (.t P4_0),some P4_6⟩,
 ⟨.no,.call (.c (.fn f_raw_NewReader [] [])) [(.t P4_6)],some P4_7⟩,
 ⟨.no,.mv (.t P4_7),some P4_4⟩])
 (.seq (.reg [⟨.no,.mv (.t P4_4),some P4_8⟩,
 ⟨.no,.call (.c (.fn f_raw_Reader_Bool [] [])) [(.t P4_8)],some P4_9⟩,
 ⟨.no,.mv (.t P4_9),some P4_5⟩])
 (.seq (.reg [⟨.no,.mv (.t P4_4),some P4_10⟩,
 ⟨.no,.mv (.t P4_4),some P4_11⟩,
 ⟨.no,.call (.c (.fn f_raw_Reader_Number [] [])) [(.t P4_11),(.c (.int .i64 (.ofNat 1)))],some P4_12⟩,
 ⟨.no,.conv (.toInt .i64) (.t P4_12),some P4_13⟩,
 ⟨.no,.call (.c (.fn f_raw_Reader_Bytes [] [])) [(.t P4_10),(.t P4_13)],some P4_14⟩,
 ⟨.no,.mv (.t P4_5),some P4_15⟩,
 ⟨.no,.mv (.t P4_14),some P4_2⟩,
 ⟨.no,.mv (.t P4_15),some P4_3⟩])
 .ret)))), [.t P4_2,.t P4_3], 0, false, false⟩
noncomputable def rf_heap_at : RFn := ⟨apOf 6 0 2, mkU 6, (.seq (.reg [⟨.no,.box (.t P6_1),some P6_3⟩,
 ⟨.no,.alloc [(.int .u32 (.ofNat 0)),(.int .u64 (.ofNat 0)),(.int .i64 (.ofNat 0)),(.str []),(.sl 0 [] .nil)],some P6_4⟩,
 ⟨.no,.mv (.c (.bool false)),some P6_5⟩,
 ⟨.no,.mv (.c (.int .i64 (.ofNat 0))),some P6_6⟩])
 (.seq (.draw [[(.int .u32 (.ofNat 0)),(.int .u64 (.ofNat 0)),(.int .i64 (.ofNat 0)),(.str []),(.sl 0 [] .nil)]] 12 [⟨⟨.no,.mv (.t P6_0),some P6_10⟩,.val,0,0⟩,
 ⟨⟨.no,.call (.c (.fn f_txn_Manager_Pool [] [])) [(.t P6_10)],some P6_11⟩,.eff,0,1⟩,
 ⟨⟨.no,.faddr 0 1 (.t P6_3),some P6_12⟩,.val,0,1⟩,
 ⟨⟨.no,.load false 1 (.t P6_12),some P6_13⟩,.read,0,1⟩,
 ⟨⟨.no,.call (.c (.fn f_pool_Pool_Get [] [])) [(.t P6_11),(.t P6_13)],some P6_14⟩,.eff,1,2⟩,
 ⟨⟨.no,.mv (.t P6_14),some P6_9⟩,.val,2,2⟩,
 ⟨⟨.no,.extr (.t P6_9) 0,some P6_15⟩,.val,2,2⟩,
 ⟨⟨.no,.extr (.t P6_9) 1,some P6_16⟩,.val,2,3⟩,
 ⟨⟨.no,.alloc [(.int .u32 (.ofNat 0)),(.int .u64 (.ofNat 0)),(.int .i64 (.ofNat 0)),(.str []),(.sl 0 [] .nil)],some P6_7⟩,.alloc,0,2⟩,
 ⟨⟨.no,.store 5 (.t P6_7) (.t P6_15),none⟩,.eff,2,3⟩,
 ⟨⟨.no,.mv (.t P6_16),some P6_8⟩,.val,3,3⟩])
 (.seq (.seq (.reg [⟨.no,.mv (.t P6_8),some P6_17⟩,
 ⟨.no,.ne .int (.t P6_17) (.c (.int .i64 (.ofNat 0))),some P6_18⟩])
 (.cond (.t P6_18) (.seq (.reg [⟨.no,.build [(.int .u32 (.ofNat 0)),(.int .u64 (.ofNat 0)),(.int .i64 (.ofNat 0)),(.str []),(.sl 0 [] .nil)] [],some P6_19⟩,
 ⟨.no,.mv (.t P6_8),some P6_20⟩,
 ⟨.no,.store 5 (.t P6_4) (.t P6_19),none⟩,
 ⟨.no,.mv (.c (.bool false)),some P6_5⟩,
 ⟨.no,.mv (.t P6_20),some P6_6⟩])
 .ret)
 .skip))
 (.seq (.seq (.reg [⟨.no,.faddr 2 1 (.t P6_7),some P6_21⟩,
 ⟨.no,.load false 1 (.t P6_21),some P6_22⟩,
 ⟨.no,.ne .int (.t P6_22) (.c (.int .i64 (.ofNat 2))),some P6_23⟩,
 ⟨.no,.mv (.t P6_23),some P6_24⟩,
 ⟨(.on P6_24 false),.faddr 1 1 (.t P6_3),some P6_25⟩,
 ⟨(.on P6_24 false),.load false 1 (.t P6_25),some P6_26⟩,
 ⟨(.on P6_24 false),.bin .lss (.t P6_26) (.c (.int .i64 (.ofNat 0))),some P6_27⟩,
 ⟨.no,.pick (.t P6_24) (.c (.bool true)) (.t P6_27),some P6_28⟩])
 (.cond (.t P6_28) (.seq (.reg [⟨.no,.build [(.int .u32 (.ofNat 0)),(.int .u64 (.ofNat 0)),(.int .i64 (.ofNat 0)),(.str []),(.sl 0 [] .nil)] [],some P6_29⟩,
 ⟨.no,.store 5 (.t P6_4) (.t P6_29),none⟩,
 ⟨.no,.mv (.c (.bool false)),some P6_5⟩,
 ⟨.no,.mv (.c (.int .i64 (.ofNat 100))),some P6_6⟩])
 .ret)
 .skip))
 (.seq (.draw [] 11 [⟨⟨.no,.load true 5 (.t P6_7),some P6_30⟩,.read,0,0⟩,
 ⟨⟨.no,.faddr 1 1 (.t P6_3),some P6_31⟩,.val,0,1⟩,
 ⟨⟨.no,.load false 1 (.t P6_31),some P6_32⟩,.read,0,1⟩,
 ⟨⟨.no,.faddr 4 1 (.t P6_7),some P6_33⟩,.val,0,1⟩,
 ⟨⟨.no,.load false 1 (.t P6_33),some P6_34⟩,.read,0,1⟩,
 ⟨⟨.no,.len .sl (.t P6_34),some P6_35⟩,.read,0,1⟩,
 ⟨⟨.no,.bin .lss (.t P6_32) (.t P6_35),some P6_36⟩,.val,0,1⟩,
 ⟨⟨.no,.store 5 (.t P6_4) (.t P6_30),none⟩,.eff,0,1⟩,
 ⟨⟨.no,.mv (.t P6_36),some P6_5⟩,.val,1,1⟩,
 ⟨⟨.no,.mv (.c (.int .i64 (.ofNat 0))),some P6_6⟩,.val,1,1⟩])
 .ret))))), [.cell true 5 P6_4,.t P6_5,.t P6_6], 0, false, false⟩
noncomputable def rf_raw_Sum : RFn := ⟨apOf 3 0 1, mkU 3, (.seq (.reg [⟨.no,.mv (.c (.int .u32 (.ofNat 0))),some P3_2⟩])
 (.seq (.reg [⟨.no,.mv (.t P3_0),some P3_3⟩,
 ⟨.no,.call (.c (.fn f_raw_More [] [])) [(.c (.int .u32 (.ofNat 0))),(.t P3_3)],some P3_4⟩,
 ⟨.no,.mv (.t P3_4),some P3_2⟩])
 .ret)), [.t P3_2], 0, false, false⟩
noncomputable def rf_slices_IndexFunc_api_Fall : RFn := ⟨apOf 5 0 2, mkU 5, (.seq (.reg [⟨.no,.mv (.c (.int .i64 (.ofNat 0))),some P5_4⟩])
 (.seq (.seq (.reg [⟨.no,.mv (.t P5_0),some P5_6⟩,
 ⟨.no,.len .sl (.t P5_6),some P5_7⟩,
 ⟨.no,.mv (.c (.int .i64 (.ofNat 0))),some P5_8⟩])
 (.block 0 (.loop (.seq (.reg [⟨.no,.bin .lss (.t P5_8) (.t P5_7),some P5_9⟩])
 (.seq (.cond (.t P5_9) .skip
 (.exit 0))
 (.seq (.block 1 (.seq (.reg [⟨.no,.mv (.t P5_8),some P5_10⟩,
 ⟨.no,.mv (.t P5_10),some P5_5⟩])
 (.seq (.reg [⟨.no,.mv (.t P5_1),some P5_11⟩,
 ⟨.no,.mv (.t P5_0),some P5_12⟩,
 ⟨.no,.mv (.t P5_5),some P5_13⟩,
 ⟨.no,.ixSl 5 (.t P5_12) (.t P5_13),some P5_14⟩,
 ⟨.no,.load true 5 (.t P5_14),some P5_15⟩,
 ⟨.no,.call (.t P5_11) [(.t P5_15)],some P5_16⟩])
 (.cond (.t P5_16) (.seq (.reg [⟨.no,.mv (.t P5_5),some P5_17⟩,
 ⟨.no,.mv (.t P5_17),some P5_4⟩])
 .ret)
 .skip))))
 (.reg [⟨.no,.bin .add (.t P5_8) (.c (.int .i64 (.ofNat 1))),some P5_18⟩,
 ⟨.no,.mv (.t P5_18),some P5_8⟩])))))))
 (.seq (.reg [⟨.no,.mv (.c (.int .i64 (.negSucc 0))),some P5_4⟩])
 .ret))), [.t P5_4], 0, false, false⟩
noncomputable def rf_wal_Log_End : RFn := ⟨apOf 4 0 1, mkU 4, (.seq (.reg [⟨.no,.mv (.c (.int .u64 (.ofNat 0))),some P4_2⟩])
 (.seq (.seq (.reg [⟨.no,.mv (.t P4_0),some P4_3⟩,
 ⟨.no,.eq .ptr (.t P4_3) (.c .nilp),some P4_4⟩])
 (.cond (.t P4_4) (.seq (.reg [⟨.no,.mv (.c (.int .u64 (.ofNat 0))),some P4_2⟩])
 .ret)
 .skip))
 (.seq (.reg [⟨.no,.mv (.t P4_0),some P4_5⟩,
 ⟨.no,.nilc (.t P4_5),some P4_6⟩,
 ⟨.no,.faddr 3 1 (.t P4_6),some P4_7⟩,
 ⟨.no,.load false 1 (.t P4_7),some P4_8⟩,
 ⟨.no,.mv (.t P4_8),some P4_2⟩])
 .ret))), [.t P4_2], 0, false, false⟩
noncomputable def rf_pool_Pool_Put : RFn := ⟨apOf 6 0 2, mkU 6, (.seq (.reg [⟨.no,.box (.t P6_1),some P6_3⟩,
 ⟨.no,.mv (.c (.int .i64 (.ofNat 0))),some P6_4⟩])
 (.seq (.seq (.reg [⟨.no,.mv (.t P6_0),some P6_10⟩,
 ⟨.no,.eq .ptr (.t P6_10) (.c .nilp),some P6_11⟩,
 ⟨.no,.mv (.t P6_11),some P6_12⟩,
 ⟨(.on P6_12 false),.faddr 0 1 (.t P6_3),some P6_13⟩,
 ⟨(.on P6_12 false),.load false 1 (.t P6_13),some P6_14⟩,
 ⟨(.on P6_12 false),.bin .lss (.t P6_14) (.c (.int .u32 (.ofNat 1))),some P6_15⟩,
 ⟨.no,.pick (.t P6_12) (.c (.bool true)) (.t P6_15),some P6_16⟩,
 ⟨.no,.mv (.t P6_16),some P6_17⟩,
 ⟨(.on P6_17 false),.faddr 0 1 (.t P6_3),some P6_18⟩,
 ⟨(.on P6_17 false),.load false 1 (.t P6_18),some P6_19⟩,
 ⟨(.on P6_17 false),.bin .gtr (.t P6_19) (.c (.int .u32 (.ofNat 2048))),some P6_20⟩,
 ⟨.no,.pick (.t P6_17) (.c (.bool true)) (.t P6_20),some P6_21⟩])
 (.cond (.t P6_21) (.seq (.reg [⟨.no,.mv (.c (.int .i64 (.ofNat 1))),some P6_4⟩])
 .ret)
 .skip))
 (.seq (.seq (.reg [⟨.no,.load true 5 (.t P6_3),some P6_23⟩,
 ⟨.no,.call (.c (.fn f_page_Encode [] [])) [(.t P6_23)],some P6_24⟩,
 ⟨.no,.mv (.t P6_24),some P6_22⟩,
 ⟨.no,.extr (.t P6_22) 0,some P6_25⟩,
 ⟨.no,.extr (.t P6_22) 1,some P6_26⟩,
 ⟨.no,.mv (.t P6_25),some P6_5⟩,
 ⟨.no,.mv (.t P6_26),some P6_6⟩])
 (.seq (.reg [⟨.no,.mv (.t P6_6),some P6_27⟩,
 ⟨.no,.ne .int (.t P6_27) (.c (.int .i64 (.ofNat 0))),some P6_28⟩])
 (.cond (.t P6_28) (.seq (.reg [⟨.no,.mv (.t P6_6),some P6_29⟩,
 ⟨.no,.mv (.t P6_29),some P6_4⟩])
 .ret)
 .skip)))
 (.seq (.draw [[(.int .u32 (.ofNat 0)),(.int .u64 (.ofNat 0)),(.int .i64 (.ofNat 0)),(.str []),(.sl 0 [] .nil),(.int .u64 (.ofNat 0))]] 14 [⟨⟨.no,.mv (.t P6_0),some P6_31⟩,.val,0,0⟩,
 ⟨⟨.no,.nilc (.t P6_31),some P6_32⟩,.val,0,0⟩,
 ⟨⟨.no,.faddr 3 1 (.t P6_32),some P6_33⟩,.val,0,0⟩,
 ⟨⟨.no,.load false 1 (.t P6_33),some P6_34⟩,.read,0,0⟩,
 ⟨⟨.no,.faddr 0 1 (.t P6_3),some P6_35⟩,.val,0,0⟩,
 ⟨⟨.no,.load false 1 (.t P6_35),some P6_36⟩,.read,0,0⟩,
 ⟨⟨.no,.look (.int .u32) (.agg [(.int .u32 (.ofNat 0)),(.int .u64 (.ofNat 0)),(.int .i64 (.ofNat 0)),(.str []),(.sl 0 [] .nil),(.int .u64 (.ofNat 0))]) (.t P6_34) (.t P6_36) true,some P6_37⟩,.read,0,0⟩,
 ⟨⟨.no,.mv (.t P6_37),some P6_30⟩,.val,0,0⟩,
 ⟨⟨.no,.extr (.t P6_30) 0,some P6_38⟩,.val,0,0⟩,
 ⟨⟨.no,.extr (.t P6_30) 1,some P6_39⟩,.val,0,1⟩,
 ⟨⟨.no,.alloc [(.int .u32 (.ofNat 0)),(.int .u64 (.ofNat 0)),(.int .i64 (.ofNat 0)),(.str []),(.sl 0 [] .nil),(.int .u64 (.ofNat 0))],some P6_7⟩,.alloc,0,0⟩,
 ⟨⟨.no,.store 6 (.t P6_7) (.t P6_38),none⟩,.eff,0,1⟩,
 ⟨⟨.no,.mv (.t P6_39),some P6_8⟩,.val,1,1⟩])
 (.seq (.seq (.reg [⟨.no,.mv (.t P6_8),some P6_40⟩,
 ⟨.no,.un .not (.t P6_40),some P6_41⟩])
 (.cond (.t P6_41) (.seq (.reg [⟨.no,.mv (.t P6_0),some P6_42⟩,
 ⟨.no,.call (.c (.fn f_pool_Pool_room [] [])) [(.t P6_42)],some P6_43⟩,
 ⟨.no,.mv (.t P6_43),some P6_9⟩])
 (.seq (.reg [⟨.no,.mv (.t P6_9),some P6_44⟩,
 ⟨.no,.ne .int (.t P6_44) (.c (.int .i64 (.ofNat 0))),some P6_45⟩])
 (.cond (.t P6_45) (.seq (.reg [⟨.no,.mv (.t P6_9),some P6_46⟩,
 ⟨.no,.mv (.t P6_46),some P6_4⟩])
 .ret)
 .skip)))
 .skip))
 (.seq (.seq (.reg [⟨.no,.faddr 5 1 (.t P6_7),some P6_47⟩,
 ⟨.no,.load false 1 (.t P6_47),some P6_48⟩,
 ⟨.no,.eq .int (.t P6_48) (.c (.int .u64 (.ofNat 0))),some P6_49⟩])
 (.cond (.t P6_49) (.reg [⟨.no,.faddr 1 1 (.t P6_3),some P6_50⟩,
 ⟨.no,.load false 1 (.t P6_50),some P6_51⟩,
 ⟨.no,.max (.t P6_51) (.c (.int .u64 (.ofNat 1))),some P6_52⟩,
 ⟨.no,.faddr 5 1 (.t P6_7),some P6_53⟩,
 ⟨.no,.store 1 (.t P6_53) (.t P6_52),none⟩])
 .skip))
 (.seq (.reg [⟨.no,.load true 5 (.t P6_3),some P6_54⟩,
 ⟨.no,.call (.c (.fn f_pool_copied [] [])) [(.t P6_54)],some P6_55⟩,
 ⟨.no,.faddr 0 5 (.t P6_7),some P6_56⟩,
 ⟨.no,.store 5 (.t P6_56) (.t P6_55),none⟩])
 (.seq (.draw [] 9 [⟨⟨.no,.mv (.t P6_0),some P6_57⟩,.val,0,0⟩,
 ⟨⟨.no,.nilc (.t P6_57),some P6_58⟩,.val,0,0⟩,
 ⟨⟨.no,.faddr 3 1 (.t P6_58),some P6_59⟩,.val,0,0⟩,
 ⟨⟨.no,.load false 1 (.t P6_59),some P6_60⟩,.read,0,0⟩,
 ⟨⟨.no,.faddr 0 1 (.t P6_3),some P6_61⟩,.val,0,0⟩,
 ⟨⟨.no,.load false 1 (.t P6_61),some P6_62⟩,.read,0,0⟩,
 ⟨⟨.no,.load true 6 (.t P6_7),some P6_63⟩,.read,0,0⟩,
 ⟨⟨.no,.mput (.int .u32) (.t P6_60) (.t P6_62) (.t P6_63),none⟩,.eff,0,1⟩])
 (.seq (.reg [⟨.no,.mv (.c (.int .i64 (.ofNat 0))),some P6_4⟩])
 .ret))))))))), [.t P6_4], 0, false, false⟩
noncomputable def rf_page_Room : RFn := ⟨apOf 5 0 1, mkU 5, (.seq (.reg [⟨.no,.box (.t P5_0),some P5_1⟩,
 ⟨.no,.mv (.c (.int .i64 (.ofNat 0))),some P5_2⟩])
 (.seq (.reg [⟨.no,.faddr 3 1 (.t P5_1),some P5_6⟩,
 ⟨.no,.load false 1 (.t P5_6),some P5_7⟩,
 ⟨.no,.len .str (.t P5_7),some P5_8⟩,
 ⟨.no,.bin .sub (.c (.int .i64 (.ofNat 485))) (.t P5_8),some P5_9⟩,
 ⟨.no,.mv (.t P5_9),some P5_3⟩])
 (.seq (.seq (.reg [⟨.no,.faddr 4 1 (.t P5_1),some P5_10⟩,
 ⟨.no,.load false 1 (.t P5_10),some P5_11⟩,
 ⟨.no,.len .sl (.t P5_11),some P5_12⟩,
 ⟨.no,.mv (.c (.int .i64 (.ofNat 0))),some P5_13⟩])
 (.block 0 (.loop (.seq (.reg [⟨.no,.bin .lss (.t P5_13) (.t P5_12),some P5_14⟩])
 (.seq (.cond (.t P5_14) .skip
 (.exit 0))
 (.seq (.block 1 (.seq (.reg [⟨.no,.ixSl 1 (.t P5_11) (.t P5_13),some P5_15⟩,
 ⟨.no,.load false 1 (.t P5_15),some P5_16⟩,
 ⟨.no,.mv (.t P5_16),some P5_5⟩])
 (.reg [⟨.no,.mv (.t P5_3),some P5_17⟩,
 ⟨.no,.mv (.t P5_5),some P5_18⟩,
 ⟨.no,.len .str (.t P5_18),some P5_19⟩,
 ⟨.no,.bin .add (.c (.int .i64 (.ofNat 2))) (.t P5_19),some P5_20⟩,
 ⟨.no,.bin .sub (.t P5_17) (.t P5_20),some P5_21⟩,
 ⟨.no,.mv (.t P5_21),some P5_3⟩])))
 (.reg [⟨.no,.bin .add (.t P5_13) (.c (.int .i64 (.ofNat 1))),some P5_22⟩,
 ⟨.no,.mv (.t P5_22),some P5_13⟩])))))))
 (.seq (.reg [⟨.no,.mv (.t P5_3),some P5_23⟩,
 ⟨.no,.mv (.t P5_23),some P5_2⟩])
 .ret)))), [.t P5_2], 0, false, false⟩
noncomputable def rf_raw_Reader_Number : RFn := ⟨apOf 6 0 2, mkU 6, (.seq (.reg [⟨.no,.mv (.c (.int .u64 (.ofNat 0))),some P6_4⟩])
 (.seq (.seq (.reg [⟨.no,.mv (.t P6_0),some P6_7⟩,
 ⟨.no,.call (.c (.fn f_raw_Reader_Err [] [])) [(.t P6_7)],some P6_8⟩,
 ⟨.no,.ne .int (.t P6_8) (.c (.int .i64 (.ofNat 0))),some P6_9⟩])
 (.cond (.t P6_9) (.seq (.reg [⟨.no,.mv (.c (.int .u64 (.ofNat 0))),some P6_4⟩])
 .ret)
 .skip))
 (.seq (.draw [] 16 [⟨⟨.no,.mv (.t P6_0),some P6_11⟩,.val,0,0⟩,
 ⟨⟨.no,.nilc (.t P6_11),some P6_12⟩,.val,0,0⟩,
 ⟨⟨.no,.faddr 0 1 (.t P6_12),some P6_13⟩,.val,0,0⟩,
 ⟨⟨.no,.load false 1 (.t P6_13),some P6_14⟩,.read,0,0⟩,
 ⟨⟨.no,.mv (.t P6_0),some P6_15⟩,.val,0,0⟩,
 ⟨⟨.no,.nilc (.t P6_15),some P6_16⟩,.val,0,0⟩,
 ⟨⟨.no,.faddr 1 1 (.t P6_16),some P6_17⟩,.val,0,0⟩,
 ⟨⟨.no,.load false 1 (.t P6_17),some P6_18⟩,.read,0,0⟩,
 ⟨⟨.no,.mv (.t P6_1),some P6_19⟩,.val,0,0⟩,
 ⟨⟨.no,.call (.c (.fn f_raw_Get [] [])) [(.t P6_14),(.t P6_18),(.t P6_19)],some P6_20⟩,.eff,0,1⟩,
 ⟨⟨.no,.mv (.t P6_20),some P6_10⟩,.val,1,1⟩,
 ⟨⟨.no,.extr (.t P6_10) 0,some P6_21⟩,.val,1,1⟩,
 ⟨⟨.no,.extr (.t P6_10) 1,some P6_22⟩,.val,1,1⟩,
 ⟨⟨.no,.mv (.t P6_21),some P6_5⟩,.val,1,1⟩,
 ⟨⟨.no,.mv (.t P6_22),some P6_6⟩,.val,1,1⟩])
 (.seq (.seq (.reg [⟨.no,.mv (.t P6_6),some P6_23⟩,
 ⟨.no,.ne .int (.t P6_23) (.c (.int .i64 (.ofNat 0))),some P6_24⟩])
 (.cond (.t P6_24) (.seq (.reg [⟨.no,.mv (.t P6_0),some P6_25⟩,
 ⟨.no,.mv (.t P6_6),some P6_26⟩,
 ⟨.no,.nilc (.t P6_25),some P6_27⟩,
 ⟨.no,.faddr 2 1 (.t P6_27),some P6_28⟩,
 ⟨.no,.store 1 (.t P6_28) (.t P6_26),none⟩])
 (.seq (.reg [⟨.no,.mv (.c (.int .u64 (.ofNat 0))),some P6_4⟩])
 .ret))
 .skip))
 (.seq (.reg [⟨.no,.mv (.t P6_0),some P6_29⟩,
 ⟨.no,.nilc (.t P6_29),some P6_30⟩,
 ⟨.no,.faddr 1 1 (.t P6_30),some P6_31⟩,
 ⟨.no,.load false 1 (.t P6_31),some P6_32⟩,
 ⟨.no,.mv (.t P6_1),some P6_33⟩,
 ⟨.no,.bin .add (.t P6_32) (.t P6_33),some P6_34⟩,
 ⟨.no,.nilc (.t P6_29),some P6_35⟩,
 ⟨.no,.faddr 1 1 (.t P6_35),some P6_36⟩,
 ⟨.no,.store 1 (.t P6_36) (.t P6_34),none⟩])
 (.seq (.reg [⟨.no,.mv (.t P6_5),some P6_37⟩,
 ⟨.no,.mv (.t P6_37),some P6_4⟩])
 .ret)))))), [.t P6_4], 0, false, false⟩
noncomputable def rf_page_Decode : RFn := ⟨apOf 7 0 1, mkU 7, (.seq (.reg [⟨.no,.alloc [(.int .u32 (.ofNat 0)),(.int .u64 (.ofNat 0)),(.int .i64 (.ofNat 0)),(.str []),(.sl 0 [] .nil)],some P7_2⟩,
 ⟨.no,.mv (.c (.int .i64 (.ofNat 0))),some P7_3⟩])
 (.seq (.block 0 (.seq (.reg [⟨.no,.mv (.t P7_0),some P7_15⟩,
 ⟨.no,.len .str (.t P7_15),some P7_16⟩,
 ⟨.no,.bin .lss (.t P7_16) (.c (.int .i64 (.ofNat 512))),some P7_17⟩,
 ⟨.no,.mv (.t P7_17),some P7_14⟩])
 (.cond (.t P7_14) (.seq (.reg [⟨.no,.build [(.int .u32 (.ofNat 0)),(.int .u64 (.ofNat 0)),(.int .i64 (.ofNat 0)),(.str []),(.sl 0 [] .nil)] [],some P7_18⟩,
 ⟨.no,.store 5 (.t P7_2) (.t P7_18),none⟩,
 ⟨.no,.mv (.c (.int .i64 (.ofNat 4))),some P7_3⟩])
 .ret)
 (.seq (.reg [⟨.no,.mv (.t P7_0),some P7_20⟩,
 ⟨.no,.len .str (.t P7_20),some P7_21⟩,
 ⟨.no,.bin .gtr (.t P7_21) (.c (.int .i64 (.ofNat 512))),some P7_22⟩,
 ⟨.no,.mv (.t P7_22),some P7_19⟩])
 (.cond (.t P7_19) (.seq (.reg [⟨.no,.build [(.int .u32 (.ofNat 0)),(.int .u64 (.ofNat 0)),(.int .i64 (.ofNat 0)),(.str []),(.sl 0 [] .nil)] [],some P7_23⟩,
 ⟨.no,.store 5 (.t P7_2) (.t P7_23),none⟩,
 ⟨.no,.mv (.c (.int .i64 (.ofNat 5))),some P7_3⟩])
 .ret)
 (.seq (.reg [⟨.no,.mv (.t P7_0),some P7_25⟩,
 ⟨.no,.call (.c (.fn f_strings_Count [] [])) [(.t P7_25),(.c (.str [0]))],some P7_26⟩,
 ⟨.no,.mv (.t P7_0),some P7_27⟩,
 ⟨.no,.len .str (.t P7_27),some P7_28⟩,
 ⟨.no,.eq .int (.t P7_26) (.t P7_28),some P7_29⟩,
 ⟨.no,.mv (.t P7_29),some P7_24⟩])
 (.cond (.t P7_24) (.seq (.reg [⟨.no,.build [(.int .u32 (.ofNat 0)),(.int .u64 (.ofNat 0)),(.int .i64 (.ofNat 0)),(.str []),(.sl 0 [] .nil)] [],some P7_30⟩,
 ⟨.no,.store 5 (.t P7_2) (.t P7_30),none⟩,
 ⟨.no,.mv (.c (.int .i64 (.ofNat 0))),some P7_3⟩])
 .ret)
 .skip)))))))
 (.seq (.seq (.draw [] 6 [⟨⟨.no,.mv (.t P7_0),some P7_31⟩,.val,0,0⟩,
 ⟨⟨.no,.sliceS (.t P7_31) (some (.c (.int .i64 (.ofNat 4)))) (some (.c (.int .i64 (.ofNat 12)))),some P7_32⟩,.val,0,0⟩,
 ⟨⟨.no,.mv (.t P7_0),some P7_33⟩,.val,0,0⟩,
 ⟨⟨.no,.sliceS (.t P7_33) (some (.c (.int .i64 (.ofNat 504)))) none,some P7_34⟩,.val,0,0⟩,
 ⟨⟨.no,.ne .str (.t P7_32) (.t P7_34),some P7_35⟩,.val,0,0⟩])
 (.cond (.t P7_35) (.seq (.reg [⟨.no,.build [(.int .u32 (.ofNat 0)),(.int .u64 (.ofNat 0)),(.int .i64 (.ofNat 0)),(.str []),(.sl 0 [] .nil)] [],some P7_36⟩,
 ⟨.no,.store 5 (.t P7_2) (.t P7_36),none⟩,
 ⟨.no,.mv (.c (.int .i64 (.ofNat 34))),some P7_3⟩])
 .ret)
 .skip))
 (.seq (.seq (.reg [⟨.no,.mv (.t P7_0),some P7_38⟩,
 ⟨.no,.call (.c (.fn f_raw_Get [] [])) [(.t P7_38),(.c (.int .i64 (.ofNat 0))),(.c (.int .i64 (.ofNat 4)))],some P7_39⟩,
 ⟨.no,.mv (.t P7_39),some P7_37⟩,
 ⟨.no,.extr (.t P7_37) 0,some P7_40⟩,
 ⟨.no,.extr (.t P7_37) 1,some P7_41⟩,
 ⟨.no,.mv (.t P7_40),some P7_4⟩,
 ⟨.no,.mv (.t P7_41),some P7_5⟩])
 (.seq (.reg [⟨.no,.mv (.t P7_4),some P7_42⟩,
 ⟨.no,.conv (.toInt .u32) (.t P7_42),some P7_43⟩,
 ⟨.no,.mv (.t P7_0),some P7_44⟩,
 ⟨.no,.sliceS (.t P7_44) (some (.c (.int .i64 (.ofNat 4)))) none,some P7_45⟩,
 ⟨.no,.call (.c (.fn f_raw_Sum [] [])) [(.t P7_45)],some P7_46⟩,
 ⟨.no,.ne .int (.t P7_43) (.t P7_46),some P7_47⟩])
 (.cond (.t P7_47) (.seq (.reg [⟨.no,.build [(.int .u32 (.ofNat 0)),(.int .u64 (.ofNat 0)),(.int .i64 (.ofNat 0)),(.str []),(.sl 0 [] .nil)] [],some P7_48⟩,
 ⟨.no,.store 5 (.t P7_2) (.t P7_48),none⟩,
 ⟨.no,.mv (.c (.int .i64 (.ofNat 32))),some P7_3⟩])
 .ret)
 .skip)))
 (.seq (.reg [⟨.no,.mv (.t P7_0),some P7_49⟩,
 ⟨.no,.sliceS (.t P7_49) (some (.c (.int .i64 (.ofNat 4)))) none,some P7_50⟩,
 ⟨.no,.call (.c (.fn f_raw_NewReader [] [])) [(.t P7_50)],some P7_51⟩,
 ⟨.no,.mv (.t P7_51),some P7_6⟩])
 (.seq (.reg [⟨.no,.mv (.t P7_6),some P7_52⟩,
 ⟨.no,.call (.c (.fn f_raw_Reader_Number [] [])) [(.t P7_52),(.c (.int .i64 (.ofNat 8)))],some P7_53⟩,
 ⟨.no,.mv (.t P7_6),some P7_54⟩,
 ⟨.no,.call (.c (.fn f_raw_Reader_Number [] [])) [(.t P7_54),(.c (.int .i64 (.ofNat 4)))],some P7_55⟩,
 ⟨.no,.conv (.toInt .u32) (.t P7_55),some P7_56⟩,
 ⟨.no,.mv (.t P7_6),some P7_57⟩,
 ⟨.no,.call (.c (.fn f_raw_Reader_Number [] [])) [(.t P7_57),(.c (.int .i64 (.ofNat 1)))],some P7_58⟩,
 ⟨.no,.conv (.toInt .i64) (.t P7_58),some P7_59⟩,
 ⟨.no,.build [(.int .u32 (.ofNat 0)),(.int .u64 (.ofNat 0)),(.int .i64 (.ofNat 0)),(.str []),(.sl 0 [] .nil)] [(1,1,(.t P7_53)),(0,1,(.t P7_56)),(2,1,(.t P7_59))],some P7_60⟩,
 ⟨.no,.alloc [(.int .u32 (.ofNat 0)),(.int .u64 (.ofNat 0)),(.int .i64 (.ofNat 0)),(.str []),(.sl 0 [] .nil)],some P7_7⟩,
 ⟨.no,.store 5 (.t P7_7) (.t P7_60),none⟩])
 (.seq (.reg [⟨.no,.mv (.t P7_6),some P7_61⟩,
 ⟨.no,.mv (.t P7_6),some P7_62⟩,
 ⟨.no,.call (.c (.fn f_raw_Reader_Number [] [])) [(.t P7_62),(.c (.int .i64 (.ofNat 1)))],some P7_63⟩,
 ⟨.no,.conv (.toInt .i64) (.t P7_63),some P7_64⟩,
 ⟨.no,.call (.c (.fn f_raw_Reader_Bytes [] [])) [(.t P7_61),(.t P7_64)],some P7_65⟩,
 ⟨.no,.faddr 3 1 (.t P7_7),some P7_66⟩,
 ⟨.no,.store 1 (.t P7_66) (.t P7_65),none⟩])
 (.seq (.reg [⟨.no,.mv (.c (.sl 0 [] .nil)),some P7_8⟩])
 (.seq (.seq (.reg [⟨.no,.mv (.t P7_6),some P7_67⟩,
 ⟨.no,.call (.c (.fn f_raw_Reader_Number [] [])) [(.t P7_67),(.c (.int .i64 (.ofNat 1)))],some P7_68⟩,
 ⟨.no,.conv (.toInt .i64) (.t P7_68),some P7_69⟩,
 ⟨.no,.mv (.t P7_69),some P7_9⟩])
 (.block 1 (.loop (.seq (.seq (.reg [⟨.no,.mv (.t P7_9),some P7_70⟩,
 ⟨.no,.bin .gtr (.t P7_70) (.c (.int .i64 (.ofNat 0))),some P7_71⟩])
 (.cond (.t P7_71) .skip
 (.exit 1)))
 (.seq (.block 2 (.reg [⟨.no,.mv (.t P7_8),some P7_74⟩,
 ⟨.no,.mv (.t P7_6),some P7_75⟩,
 ⟨.no,.call (.c (.fn f_raw_Reader_Number [] [])) [(.t P7_75),(.c (.int .i64 (.ofNat 2)))],some P7_76⟩,
 ⟨.no,.conv (.toInt .i64) (.t P7_76),some P7_77⟩,
 ⟨.no,.buildSl 1 [(.int .i64 (.ofNat 0))] [(0,1,(.t P7_77))],some P7_78⟩,
 ⟨.no,.app 1 8 false (.t P7_74) (.t P7_78),some P7_79⟩,
 ⟨.no,.mv (.t P7_79),some P7_8⟩]))
 (.reg [⟨.no,.mv (.t P7_9),some P7_72⟩,
 ⟨.no,.bin .sub (.t P7_72) (.c (.int .i64 (.ofNat 1))),some P7_73⟩,
 ⟨.no,.mv (.t P7_73),some P7_9⟩]))))))
 (.seq (.seq (.reg [⟨.no,.mv (.t P7_8),some P7_80⟩,
 ⟨.no,.len .sl (.t P7_80),some P7_81⟩,
 ⟨.no,.mv (.c (.int .i64 (.ofNat 0))),some P7_82⟩])
 (.block 3 (.loop (.seq (.reg [⟨.no,.bin .lss (.t P7_82) (.t P7_81),some P7_83⟩])
 (.seq (.cond (.t P7_83) .skip
 (.exit 3))
 (.seq (.block 4 (.seq (.reg [⟨.no,.ixSl 1 (.t P7_80) (.t P7_82),some P7_84⟩,
 ⟨.no,.load false 1 (.t P7_84),some P7_85⟩,
 ⟨.no,.mv (.t P7_85),some P7_11⟩])
 (.draw [] 10 [⟨⟨.no,.faddr 4 1 (.t P7_7),some P7_86⟩,.val,0,1⟩,
 ⟨⟨.no,.load false 1 (.t P7_86),some P7_87⟩,.read,0,1⟩,
 ⟨⟨.no,.mv (.t P7_6),some P7_88⟩,.val,0,0⟩,
 ⟨⟨.no,.mv (.t P7_11),some P7_89⟩,.val,0,0⟩,
 ⟨⟨.no,.call (.c (.fn f_raw_Reader_Bytes [] [])) [(.t P7_88),(.t P7_89)],some P7_90⟩,.eff,0,1⟩,
 ⟨⟨.no,.buildSl 1 [(.str [])] [(0,1,(.t P7_90))],some P7_91⟩,.val,1,1⟩,
 ⟨⟨.no,.app 1 16 false (.t P7_87) (.t P7_91),some P7_92⟩,.eff,1,2⟩,
 ⟨⟨.no,.faddr 4 1 (.t P7_7),some P7_93⟩,.val,2,2⟩,
 ⟨⟨.no,.store 1 (.t P7_93) (.t P7_92),none⟩,.eff,2,3⟩])))
 (.reg [⟨.no,.bin .add (.t P7_82) (.c (.int .i64 (.ofNat 1))),some P7_94⟩,
 ⟨.no,.mv (.t P7_94),some P7_82⟩])))))))
 (.seq (.seq (.reg [⟨.no,.load true 5 (.t P7_7),some P7_96⟩,
 ⟨.no,.call (.c (.fn f_page_Encode [] [])) [(.t P7_96)],some P7_97⟩,
 ⟨.no,.mv (.t P7_97),some P7_95⟩,
 ⟨.no,.extr (.t P7_95) 0,some P7_98⟩,
 ⟨.no,.extr (.t P7_95) 1,some P7_99⟩,
 ⟨.no,.mv (.t P7_98),some P7_12⟩,
 ⟨.no,.mv (.t P7_99),some P7_13⟩])
 (.seq (.reg [⟨.no,.mv (.t P7_6),some P7_100⟩,
 ⟨.no,.call (.c (.fn f_raw_Reader_Err [] [])) [(.t P7_100)],some P7_101⟩,
 ⟨.no,.ne .int (.t P7_101) (.c (.int .i64 (.ofNat 0))),some P7_102⟩,
 ⟨.no,.mv (.t P7_102),some P7_103⟩,
 ⟨(.on P7_103 false),.mv (.t P7_13),some P7_104⟩,
 ⟨(.on P7_103 false),.ne .int (.t P7_104) (.c (.int .i64 (.ofNat 0))),some P7_105⟩,
 ⟨.no,.pick (.t P7_103) (.c (.bool true)) (.t P7_105),some P7_106⟩,
 ⟨.no,.mv (.t P7_106),some P7_107⟩,
 ⟨(.on P7_107 false),.mv (.t P7_12),some P7_108⟩,
 ⟨(.on P7_107 false),.mv (.t P7_0),some P7_109⟩,
 ⟨(.on P7_107 false),.ne .str (.t P7_108) (.t P7_109),some P7_110⟩,
 ⟨.no,.pick (.t P7_107) (.c (.bool true)) (.t P7_110),some P7_111⟩])
 (.cond (.t P7_111) (.seq (.reg [⟨.no,.build [(.int .u32 (.ofNat 0)),(.int .u64 (.ofNat 0)),(.int .i64 (.ofNat 0)),(.str []),(.sl 0 [] .nil)] [],some P7_112⟩,
 ⟨.no,.store 5 (.t P7_2) (.t P7_112),none⟩,
 ⟨.no,.mv (.c (.int .i64 (.ofNat 6))),some P7_3⟩])
 .ret)
 .skip)))
 (.seq (.reg [⟨.no,.load true 5 (.t P7_7),some P7_113⟩,
 ⟨.no,.store 5 (.t P7_2) (.t P7_113),none⟩,
 ⟨.no,.mv (.c (.int .i64 (.ofNat 0))),some P7_3⟩])
 .ret)))))))))))), [.cell true 5 P7_2,.t P7_3], 0, false, false⟩
noncomputable def rf_cmp_Compare_api_Page : RFn := ⟨apOf 5 0 2, mkU 5, (.seq (.reg [⟨.no,.mv (.c (.int .i64 (.ofNat 0))),some P5_4⟩])
 (.seq (.reg [⟨.no,.mv (.t P5_0),some P5_7⟩,
 ⟨.no,.call (.c (.fn f_cmp_isNaN_api_Page [] [])) [(.t P5_7)],some P5_8⟩,
 ⟨.no,.mv (.t P5_8),some P5_5⟩])
 (.seq (.reg [⟨.no,.mv (.t P5_1),some P5_9⟩,
 ⟨.no,.call (.c (.fn f_cmp_isNaN_api_Page [] [])) [(.t P5_9)],some P5_10⟩,
 ⟨.no,.mv (.t P5_10),some P5_6⟩])
 (.seq (.seq (.reg [⟨.no,.mv (.t P5_5),some P5_11⟩])
 (.cond (.t P5_11) (.seq (.seq (.reg [⟨.no,.mv (.t P5_6),some P5_12⟩])
 (.cond (.t P5_12) (.seq (.reg [⟨.no,.mv (.c (.int .i64 (.ofNat 0))),some P5_4⟩])
 .ret)
 .skip))
 (.seq (.reg [⟨.no,.mv (.c (.int .i64 (.negSucc 0))),some P5_4⟩])
 .ret))
 .skip))
 (.seq (.seq (.reg [⟨.no,.mv (.t P5_6),some P5_13⟩])
 (.cond (.t P5_13) (.seq (.reg [⟨.no,.mv (.c (.int .i64 (.ofNat 1))),some P5_4⟩])
 .ret)
 .skip))
 (.seq (.seq (.reg [⟨.no,.mv (.t P5_0),some P5_14⟩,
 ⟨.no,.mv (.t P5_1),some P5_15⟩,
 ⟨.no,.bin .lss (.t P5_14) (.t P5_15),some P5_16⟩])
 (.cond (.t P5_16) (.seq (.reg [⟨.no,.mv (.c (.int .i64 (.negSucc 0))),some P5_4⟩])
 .ret)
 .skip))
 (.seq (.seq (.reg [⟨.no,.mv (.t P5_0),some P5_17⟩,
 ⟨.no,.mv (.t P5_1),some P5_18⟩,
 ⟨.no,.bin .gtr (.t P5_17) (.t P5_18),some P5_19⟩])
 (.cond (.t P5_19) (.seq (.reg [⟨.no,.mv (.c (.int .i64 (.ofNat 1))),some P5_4⟩])
 .ret)
 .skip))
 (.seq (.reg [⟨.no,.mv (.c (.int .i64 (.ofNat 0))),some P5_4⟩])
 .ret)))))))), [.t P5_4], 0, false, false⟩
noncomputable def rf_rec_Check : RFn := ⟨apOf 8 0 1, mkU 8, (.seq (.reg [⟨.no,.box (.t P8_0),some P8_1⟩,
 ⟨.no,.mv (.c (.int .i64 (.ofNat 0))),some P8_2⟩])
 (.seq (.reg [⟨.no,.faddr 0 1 (.t P8_1),some P8_10⟩,
 ⟨.no,.load false 1 (.t P8_10),some P8_11⟩,
 ⟨.no,.call (.c (.fn f_rec_named [] [])) [(.t P8_11)],some P8_12⟩,
 ⟨.no,.mv (.t P8_12),some P8_9⟩,
 ⟨.no,.extr (.t P8_9) 0,some P8_13⟩,
 ⟨.no,.extr (.t P8_9) 1,some P8_14⟩,
 ⟨.no,.extr (.t P8_9) 2,some P8_15⟩,
 ⟨.no,.mv (.t P8_13),some P8_3⟩,
 ⟨.no,.mv (.t P8_14),some P8_4⟩,
 ⟨.no,.mv (.t P8_15),some P8_5⟩])
 (.seq (.reg [⟨.no,.faddr 0 1 (.t P8_1),some P8_16⟩,
 ⟨.no,.load false 1 (.t P8_16),some P8_17⟩,
 ⟨.no,.bin .geq (.t P8_17) (.c (.int .i64 (.ofNat 1))),some P8_18⟩,
 ⟨.no,.mv (.t P8_18),some P8_19⟩,
 ⟨(.on P8_19 true),.faddr 0 1 (.t P8_1),some P8_20⟩,
 ⟨(.on P8_19 true),.load false 1 (.t P8_20),some P8_21⟩,
 ⟨(.on P8_19 true),.bin .leq (.t P8_21) (.c (.int .i64 (.ofNat 8))),some P8_22⟩,
 ⟨.no,.pick (.t P8_19) (.t P8_22) (.c (.bool false)),some P8_23⟩,
 ⟨.no,.mv (.t P8_23),some P8_24⟩,
 ⟨(.on P8_24 true),.faddr 1 1 (.t P8_1),some P8_25⟩,
 ⟨(.on P8_24 true),.load false 1 (.t P8_25),some P8_26⟩,
 ⟨(.on P8_24 true),.bin .geq (.t P8_26) (.c (.int .i64 (.ofNat 0))),some P8_27⟩,
 ⟨.no,.pick (.t P8_24) (.t P8_27) (.c (.bool false)),some P8_28⟩,
 ⟨.no,.mv (.t P8_28),some P8_29⟩,
 ⟨(.on P8_29 true),.faddr 1 1 (.t P8_1),some P8_30⟩,
 ⟨(.on P8_29 true),.load false 1 (.t P8_30),some P8_31⟩,
 ⟨(.on P8_29 true),.bin .lss (.t P8_31) (.c (.int .i64 (.ofNat 2147483648))),some P8_32⟩,
 ⟨.no,.pick (.t P8_29) (.t P8_32) (.c (.bool false)),some P8_33⟩,
 ⟨.no,.mv (.t P8_33),some P8_6⟩])
 (.seq (.reg [⟨.no,.mv (.t P8_6),some P8_34⟩,
 ⟨.no,.mv (.t P8_34),some P8_35⟩,
 ⟨(.on P8_35 true),.faddr 9 1 (.t P8_1),some P8_36⟩,
 ⟨(.on P8_35 true),.load false 1 (.t P8_36),some P8_37⟩,
 ⟨(.on P8_35 true),.bin .geq (.t P8_37) (.c (.int .i64 (.ofNat 0))),some P8_38⟩,
 ⟨.no,.pick (.t P8_35) (.t P8_38) (.c (.bool false)),some P8_39⟩,
 ⟨.no,.mv (.t P8_39),some P8_40⟩,
 ⟨(.on P8_40 true),.faddr 9 1 (.t P8_1),some P8_41⟩,
 ⟨(.on P8_40 true),.load false 1 (.t P8_41),some P8_42⟩,
 ⟨(.on P8_40 true),.bin .leq (.t P8_42) (.c (.int .i64 (.ofNat 2))),some P8_43⟩,
 ⟨.no,.pick (.t P8_40) (.t P8_43) (.c (.bool false)),some P8_44⟩,
 ⟨.no,.mv (.t P8_44),some P8_6⟩])
 (.seq (.seq (.reg [⟨.no,.mv (.t P8_3),some P8_45⟩])
 (.cond (.t P8_45) (.reg [⟨.no,.mv (.t P8_6),some P8_46⟩,
 ⟨.no,.mv (.t P8_46),some P8_47⟩,
 ⟨(.on P8_47 true),.faddr 4 1 (.t P8_1),some P8_48⟩,
 ⟨(.on P8_47 true),.load false 1 (.t P8_48),some P8_49⟩,
 ⟨(.on P8_47 true),.ne .int (.t P8_49) (.c (.int .u32 (.ofNat 0))),some P8_50⟩,
 ⟨.no,.pick (.t P8_47) (.t P8_50) (.c (.bool false)),some P8_51⟩,
 ⟨.no,.mv (.t P8_51),some P8_52⟩,
 ⟨(.on P8_52 true),.faddr 5 4 (.t P8_1),some P8_53⟩,
 ⟨(.on P8_52 true),.load true 4 (.t P8_53),some P8_54⟩,
 ⟨(.on P8_52 true),.call (.c (.fn f_page_Check [] [])) [(.t P8_54)],some P8_55⟩,
 ⟨(.on P8_52 true),.eq .int (.t P8_55) (.c (.int .i64 (.ofNat 0))),some P8_56⟩,
 ⟨.no,.pick (.t P8_52) (.t P8_56) (.c (.bool false)),some P8_57⟩,
 ⟨.no,.mv (.t P8_57),some P8_6⟩])
 (.reg [⟨.no,.mv (.t P8_6),some P8_58⟩,
 ⟨.no,.mv (.t P8_58),some P8_59⟩,
 ⟨(.on P8_59 true),.faddr 4 1 (.t P8_1),some P8_60⟩,
 ⟨(.on P8_59 true),.load false 1 (.t P8_60),some P8_61⟩,
 ⟨(.on P8_59 true),.eq .int (.t P8_61) (.c (.int .u32 (.ofNat 0))),some P8_62⟩,
 ⟨.no,.pick (.t P8_59) (.t P8_62) (.c (.bool false)),some P8_63⟩,
 ⟨.no,.mv (.t P8_63),some P8_64⟩,
 ⟨(.on P8_64 true),.faddr 5 4 (.t P8_1),some P8_65⟩,
 ⟨(.on P8_64 true),.load true 4 (.t P8_65),some P8_66⟩,
 ⟨(.on P8_64 true),.build [(.int .i64 (.ofNat 0)),(.int .i64 (.ofNat 0)),(.str []),(.str [])] [],some P8_67⟩,
 ⟨(.on P8_64 true),.eq (.agg [.int,.int,.str,.str]) (.t P8_66) (.t P8_67),some P8_68⟩,
 ⟨.no,.pick (.t P8_64) (.t P8_68) (.c (.bool false)),some P8_69⟩,
 ⟨.no,.mv (.t P8_69),some P8_70⟩,
 ⟨(.on P8_70 true),.faddr 9 1 (.t P8_1),some P8_71⟩,
 ⟨(.on P8_70 true),.load false 1 (.t P8_71),some P8_72⟩,
 ⟨(.on P8_70 true),.eq .int (.t P8_72) (.c (.int .i64 (.ofNat 0))),some P8_73⟩,
 ⟨.no,.pick (.t P8_70) (.t P8_73) (.c (.bool false)),some P8_74⟩,
 ⟨.no,.mv (.t P8_74),some P8_6⟩])))
 (.seq (.seq (.reg [⟨.no,.faddr 9 1 (.t P8_1),some P8_75⟩,
 ⟨.no,.load false 1 (.t P8_75),some P8_76⟩,
 ⟨.no,.eq .int (.t P8_76) (.c (.int .i64 (.ofNat 2))),some P8_77⟩])
 (.cond (.t P8_77) (.reg [⟨.no,.mv (.t P8_6),some P8_78⟩,
 ⟨.no,.mv (.t P8_78),some P8_79⟩,
 ⟨(.on P8_79 true),.faddr 10 1 (.t P8_1),some P8_80⟩,
 ⟨(.on P8_79 true),.load false 1 (.t P8_80),some P8_81⟩,
 ⟨(.on P8_79 true),.bin .geq (.t P8_81) (.c (.int .i64 (.ofNat 0))),some P8_82⟩,
 ⟨.no,.pick (.t P8_79) (.t P8_82) (.c (.bool false)),some P8_83⟩,
 ⟨.no,.mv (.t P8_83),some P8_84⟩,
 ⟨(.on P8_84 true),.faddr 10 1 (.t P8_1),some P8_85⟩,
 ⟨(.on P8_84 true),.load false 1 (.t P8_85),some P8_86⟩,
 ⟨(.on P8_84 true),.bin .lss (.t P8_86) (.c (.int .i64 (.ofNat 65536))),some P8_87⟩,
 ⟨.no,.pick (.t P8_84) (.t P8_87) (.c (.bool false)),some P8_88⟩,
 ⟨.no,.mv (.t P8_88),some P8_89⟩,
 ⟨(.on P8_89 true),.faddr 11 3 (.t P8_1),some P8_90⟩,
 ⟨(.on P8_89 true),.faddr 0 1 (.t P8_90),some P8_91⟩,
 ⟨(.on P8_89 true),.load false 1 (.t P8_91),some P8_92⟩,
 ⟨(.on P8_89 true),.len .str (.t P8_92),some P8_93⟩,
 ⟨(.on P8_89 true),.bin .leq (.t P8_93) (.c (.int .i64 (.ofNat 64))),some P8_94⟩,
 ⟨.no,.pick (.t P8_89) (.t P8_94) (.c (.bool false)),some P8_95⟩,
 ⟨.no,.mv (.t P8_95),some P8_96⟩,
 ⟨(.on P8_96 true),.faddr 11 3 (.t P8_1),some P8_97⟩,
 ⟨(.on P8_96 true),.faddr 1 2 (.t P8_97),some P8_98⟩,
 ⟨(.on P8_96 true),.faddr 1 1 (.t P8_98),some P8_99⟩,
 ⟨(.on P8_96 true),.load false 1 (.t P8_99),some P8_100⟩,
 ⟨(.on P8_96 true),.bin .geq (.t P8_100) (.c (.int .i64 (.ofNat 0))),some P8_101⟩,
 ⟨.no,.pick (.t P8_96) (.t P8_101) (.c (.bool false)),some P8_102⟩,
 ⟨.no,.mv (.t P8_102),some P8_103⟩,
 ⟨(.on P8_103 true),.faddr 11 3 (.t P8_1),some P8_104⟩,
 ⟨(.on P8_103 true),.faddr 1 2 (.t P8_104),some P8_105⟩,
 ⟨(.on P8_103 true),.faddr 1 1 (.t P8_105),some P8_106⟩,
 ⟨(.on P8_103 true),.load false 1 (.t P8_106),some P8_107⟩,
 ⟨(.on P8_103 true),.bin .lss (.t P8_107) (.c (.int .i64 (.ofNat 65536))),some P8_108⟩,
 ⟨.no,.pick (.t P8_103) (.t P8_108) (.c (.bool false)),some P8_109⟩,
 ⟨.no,.mv (.t P8_109),some P8_6⟩])
 (.reg [⟨.no,.mv (.t P8_6),some P8_110⟩,
 ⟨.no,.mv (.t P8_110),some P8_111⟩,
 ⟨(.on P8_111 true),.faddr 10 1 (.t P8_1),some P8_112⟩,
 ⟨(.on P8_111 true),.load false 1 (.t P8_112),some P8_113⟩,
 ⟨(.on P8_111 true),.eq .int (.t P8_113) (.c (.int .i64 (.ofNat 0))),some P8_114⟩,
 ⟨.no,.pick (.t P8_111) (.t P8_114) (.c (.bool false)),some P8_115⟩,
 ⟨.no,.mv (.t P8_115),some P8_116⟩,
 ⟨(.on P8_116 true),.faddr 11 3 (.t P8_1),some P8_117⟩,
 ⟨(.on P8_116 true),.load true 3 (.t P8_117),some P8_118⟩,
 ⟨(.on P8_116 true),.build [(.str []),(.int .u32 (.ofNat 0)),(.int .i64 (.ofNat 0))] [],some P8_119⟩,
 ⟨(.on P8_116 true),.eq (.agg [.str,.int,.int]) (.t P8_118) (.t P8_119),some P8_120⟩,
 ⟨.no,.pick (.t P8_116) (.t P8_120) (.c (.bool false)),some P8_121⟩,
 ⟨.no,.mv (.t P8_121),some P8_122⟩,
 ⟨(.on P8_122 true),.faddr 14 1 (.t P8_1),some P8_123⟩,
 ⟨(.on P8_122 true),.load false 1 (.t P8_123),some P8_124⟩,
 ⟨(.on P8_122 true),.un .not (.t P8_124),some P8_125⟩,
 ⟨.no,.pick (.t P8_122) (.t P8_125) (.c (.bool false)),some P8_126⟩,
 ⟨.no,.mv (.t P8_126),some P8_6⟩])))
 (.seq (.reg [⟨.no,.mv (.t P8_6),some P8_127⟩,
 ⟨.no,.mv (.t P8_127),some P8_128⟩,
 ⟨(.on P8_128 true),.mv (.t P8_4),some P8_129⟩,
 ⟨(.on P8_128 true),.mv (.t P8_129),some P8_130⟩,
 ⟨(.on P8_130 false),.faddr 3 1 (.t P8_1),some P8_131⟩,
 ⟨(.on P8_130 false),.load false 1 (.t P8_131),some P8_132⟩,
 ⟨(.on P8_130 false),.eq .int (.t P8_132) (.c (.int .u64 (.ofNat 0))),some P8_133⟩,
 ⟨(.on P8_128 true),.pick (.t P8_130) (.c (.bool true)) (.t P8_133),some P8_134⟩,
 ⟨.no,.pick (.t P8_128) (.t P8_134) (.c (.bool false)),some P8_135⟩,
 ⟨.no,.mv (.t P8_135),some P8_136⟩,
 ⟨(.on P8_136 true),.faddr 0 1 (.t P8_1),some P8_137⟩,
 ⟨(.on P8_136 true),.load false 1 (.t P8_137),some P8_138⟩,
 ⟨(.on P8_136 true),.eq .int (.t P8_138) (.c (.int .i64 (.ofNat 1))),some P8_139⟩,
 ⟨(.on P8_136 true),.mv (.t P8_139),some P8_140⟩,
 ⟨(.on P8_140 false),.faddr 9 1 (.t P8_1),some P8_141⟩,
 ⟨(.on P8_140 false),.load false 1 (.t P8_141),some P8_142⟩,
 ⟨(.on P8_140 false),.eq .int (.t P8_142) (.c (.int .i64 (.ofNat 0))),some P8_143⟩,
 ⟨(.on P8_136 true),.pick (.t P8_140) (.c (.bool true)) (.t P8_143),some P8_144⟩,
 ⟨.no,.pick (.t P8_136) (.t P8_144) (.c (.bool false)),some P8_145⟩,
 ⟨.no,.mv (.t P8_145),some P8_6⟩])
 (.seq (.reg [⟨.no,.mv (.t P8_6),some P8_146⟩,
 ⟨.no,.mv (.t P8_146),some P8_147⟩,
 ⟨(.on P8_147 true),.mv (.t P8_5),some P8_148⟩,
 ⟨(.on P8_147 true),.mv (.t P8_148),some P8_149⟩,
 ⟨(.on P8_149 false),.faddr 15 1 (.t P8_1),some P8_150⟩,
 ⟨(.on P8_149 false),.load false 1 (.t P8_150),some P8_151⟩,
 ⟨(.on P8_149 false),.len .sl (.t P8_151),some P8_152⟩,
 ⟨(.on P8_149 false),.eq .int (.t P8_152) (.c (.int .i64 (.ofNat 0))),some P8_153⟩,
 ⟨(.on P8_149 false),.mv (.t P8_153),some P8_154⟩,
 ⟨(.on P8_154 true),.faddr 16 1 (.t P8_1),some P8_155⟩,
 ⟨(.on P8_154 true),.load false 1 (.t P8_155),some P8_156⟩,
 ⟨(.on P8_154 true),.len .sl (.t P8_156),some P8_157⟩,
 ⟨(.on P8_154 true),.eq .int (.t P8_157) (.c (.int .i64 (.ofNat 0))),some P8_158⟩,
 ⟨(.on P8_149 false),.pick (.t P8_154) (.t P8_158) (.c (.bool false)),some P8_159⟩,
 ⟨(.on P8_147 true),.pick (.t P8_149) (.c (.bool true)) (.t P8_159),some P8_160⟩,
 ⟨.no,.pick (.t P8_147) (.t P8_160) (.c (.bool false)),some P8_161⟩,
 ⟨.no,.mv (.t P8_161),some P8_162⟩,
 ⟨(.on P8_162 true),.faddr 15 1 (.t P8_1),some P8_163⟩,
 ⟨(.on P8_162 true),.load false 1 (.t P8_163),some P8_164⟩,
 ⟨(.on P8_162 true),.len .sl (.t P8_164),some P8_165⟩,
 ⟨(.on P8_162 true),.bin .leq (.t P8_165) (.c (.int .i64 (.ofNat 64))),some P8_166⟩,
 ⟨.no,.pick (.t P8_162) (.t P8_166) (.c (.bool false)),some P8_167⟩,
 ⟨.no,.mv (.t P8_167),some P8_168⟩,
 ⟨(.on P8_168 true),.faddr 16 1 (.t P8_1),some P8_169⟩,
 ⟨(.on P8_168 true),.load false 1 (.t P8_169),some P8_170⟩,
 ⟨(.on P8_168 true),.len .sl (.t P8_170),some P8_171⟩,
 ⟨(.on P8_168 true),.bin .leq (.t P8_171) (.c (.int .i64 (.ofNat 256))),some P8_172⟩,
 ⟨.no,.pick (.t P8_168) (.t P8_172) (.c (.bool false)),some P8_173⟩,
 ⟨.no,.mv (.t P8_173),some P8_6⟩])
 (.seq (.seq (.reg [⟨.no,.faddr 15 1 (.t P8_1),some P8_174⟩,
 ⟨.no,.load false 1 (.t P8_174),some P8_175⟩,
 ⟨.no,.len .sl (.t P8_175),some P8_176⟩,
 ⟨.no,.mv (.c (.int .i64 (.ofNat 0))),some P8_177⟩])
 (.block 0 (.loop (.seq (.reg [⟨.no,.bin .lss (.t P8_177) (.t P8_176),some P8_178⟩])
 (.seq (.cond (.t P8_178) .skip
 (.exit 0))
 (.seq (.block 1 (.seq (.reg [⟨.no,.ixSl 4 (.t P8_175) (.t P8_177),some P8_179⟩,
 ⟨.no,.load true 4 (.t P8_179),some P8_180⟩,
 ⟨.no,.alloc [(.int .i64 (.ofNat 0)),(.int .i64 (.ofNat 0)),(.int .u64 (.ofNat 0)),(.int .u64 (.ofNat 0))],some P8_8⟩,
 ⟨.no,.store 4 (.t P8_8) (.t P8_180),none⟩])
 (.reg [⟨.no,.mv (.t P8_6),some P8_181⟩,
 ⟨.no,.mv (.t P8_181),some P8_182⟩,
 ⟨(.on P8_182 true),.faddr 0 1 (.t P8_8),some P8_183⟩,
 ⟨(.on P8_182 true),.load false 1 (.t P8_183),some P8_184⟩,
 ⟨(.on P8_182 true),.bin .geq (.t P8_184) (.c (.int .i64 (.ofNat 0))),some P8_185⟩,
 ⟨.no,.pick (.t P8_182) (.t P8_185) (.c (.bool false)),some P8_186⟩,
 ⟨.no,.mv (.t P8_186),some P8_187⟩,
 ⟨(.on P8_187 true),.faddr 0 1 (.t P8_8),some P8_188⟩,
 ⟨(.on P8_187 true),.load false 1 (.t P8_188),some P8_189⟩,
 ⟨(.on P8_187 true),.bin .lss (.t P8_189) (.c (.int .i64 (.ofNat 2147483648))),some P8_190⟩,
 ⟨.no,.pick (.t P8_187) (.t P8_190) (.c (.bool false)),some P8_191⟩,
 ⟨.no,.mv (.t P8_191),some P8_192⟩,
 ⟨(.on P8_192 true),.faddr 1 1 (.t P8_8),some P8_193⟩,
 ⟨(.on P8_192 true),.load false 1 (.t P8_193),some P8_194⟩,
 ⟨(.on P8_192 true),.bin .geq (.t P8_194) (.c (.int .i64 (.ofNat 1))),some P8_195⟩,
 ⟨.no,.pick (.t P8_192) (.t P8_195) (.c (.bool false)),some P8_196⟩,
 ⟨.no,.mv (.t P8_196),some P8_197⟩,
 ⟨(.on P8_197 true),.faddr 1 1 (.t P8_8),some P8_198⟩,
 ⟨(.on P8_197 true),.load false 1 (.t P8_198),some P8_199⟩,
 ⟨(.on P8_197 true),.bin .leq (.t P8_199) (.c (.int .i64 (.ofNat 3))),some P8_200⟩,
 ⟨.no,.pick (.t P8_197) (.t P8_200) (.c (.bool false)),some P8_201⟩,
 ⟨.no,.mv (.t P8_201),some P8_6⟩])))
 (.reg [⟨.no,.bin .add (.t P8_177) (.c (.int .i64 (.ofNat 1))),some P8_202⟩,
 ⟨.no,.mv (.t P8_202),some P8_177⟩])))))))
 (.seq (.seq (.reg [⟨.no,.mv (.t P8_6),some P8_203⟩,
 ⟨.no,.un .not (.t P8_203),some P8_204⟩])
 (.cond (.t P8_204) (.seq (.reg [⟨.no,.mv (.c (.int .i64 (.ofNat 40))),some P8_2⟩])
 .ret)
 .skip))
 (.seq (.reg [⟨.no,.mv (.c (.int .i64 (.ofNat 0))),some P8_2⟩])
 .ret))))))))))), [.t P8_2], 0, false, false⟩
noncomputable def rf_slices_insertionSortCmpFunc_api_Index : RFn := ⟨apOf 6 0 4, mkU 6, (.seq (.reg [⟨.no,.mv (.t P6_1),some P6_10⟩,
 ⟨.no,.bin .add (.t P6_10) (.c (.int .i64 (.ofNat 1))),some P6_11⟩,
 ⟨.no,.mv (.t P6_11),some P6_8⟩])
 (.block 0 (.loop (.seq (.seq (.reg [⟨.no,.mv (.t P6_8),some P6_12⟩,
 ⟨.no,.mv (.t P6_2),some P6_13⟩,
 ⟨.no,.bin .lss (.t P6_12) (.t P6_13),some P6_14⟩])
 (.cond (.t P6_14) .skip
 (.exit 0)))
 (.seq (.block 1 (.seq (.reg [⟨.no,.mv (.t P6_8),some P6_17⟩,
 ⟨.no,.mv (.t P6_17),some P6_9⟩])
 (.block 2 (.loop (.seq (.seq (.draw [] 18 [⟨⟨.no,.mv (.t P6_9),some P6_18⟩,.val,0,0⟩,
 ⟨⟨.no,.mv (.t P6_1),some P6_19⟩,.val,0,0⟩,
 ⟨⟨.no,.bin .gtr (.t P6_18) (.t P6_19),some P6_20⟩,.val,0,0⟩,
 ⟨⟨.no,.mv (.t P6_20),some P6_21⟩,.val,0,0⟩,
 ⟨⟨(.on P6_21 true),.mv (.t P6_3),some P6_22⟩,.val,0,0⟩,
 ⟨⟨(.on P6_21 true),.mv (.t P6_0),some P6_23⟩,.val,0,0⟩,
 ⟨⟨(.on P6_21 true),.mv (.t P6_9),some P6_24⟩,.val,0,0⟩,
 ⟨⟨(.on P6_21 true),.ixSl 5 (.t P6_23) (.t P6_24),some P6_25⟩,.val,0,0⟩,
 ⟨⟨(.on P6_21 true),.load true 5 (.t P6_25),some P6_26⟩,.read,0,0⟩,
 ⟨⟨(.on P6_21 true),.mv (.t P6_0),some P6_27⟩,.val,0,0⟩,
 ⟨⟨(.on P6_21 true),.mv (.t P6_9),some P6_28⟩,.val,0,0⟩,
 ⟨⟨(.on P6_21 true),.bin .sub (.t P6_28) (.c (.int .i64 (.ofNat 1))),some P6_29⟩,.val,0,0⟩,
 ⟨⟨(.on P6_21 true),.ixSl 5 (.t P6_27) (.t P6_29),some P6_30⟩,.val,0,0⟩,
 ⟨⟨(.on P6_21 true),.load true 5 (.t P6_30),some P6_31⟩,.read,0,0⟩,
 ⟨⟨(.on P6_21 true),.call (.t P6_22) [(.t P6_26),(.t P6_31)],some P6_32⟩,.eff,0,1⟩,
 ⟨⟨(.on P6_21 true),.bin .lss (.t P6_32) (.c (.int .i64 (.ofNat 0))),some P6_33⟩,.val,1,1⟩,
 ⟨⟨.no,.pick (.t P6_21) (.t P6_33) (.c (.bool false)),some P6_34⟩,.val,1,1⟩])
 (.cond (.t P6_34) .skip
 (.exit 2)))
 (.seq (.block 3 (.draw [] 19 [⟨⟨.no,.mv (.t P6_0),some P6_37⟩,.val,0,0⟩,
 ⟨⟨.no,.mv (.t P6_9),some P6_38⟩,.val,0,0⟩,
 ⟨⟨.no,.mv (.t P6_0),some P6_39⟩,.val,0,1⟩,
 ⟨⟨.no,.mv (.t P6_9),some P6_40⟩,.val,0,1⟩,
 ⟨⟨.no,.bin .sub (.t P6_40) (.c (.int .i64 (.ofNat 1))),some P6_41⟩,.val,0,1⟩,
 ⟨⟨.no,.mv (.t P6_0),some P6_42⟩,.val,0,0⟩,
 ⟨⟨.no,.mv (.t P6_9),some P6_43⟩,.val,0,0⟩,
 ⟨⟨.no,.bin .sub (.t P6_43) (.c (.int .i64 (.ofNat 1))),some P6_44⟩,.val,0,0⟩,
 ⟨⟨.no,.ixSl 5 (.t P6_42) (.t P6_44),some P6_45⟩,.val,0,0⟩,
 ⟨⟨.no,.load true 5 (.t P6_45),some P6_46⟩,.read,0,0⟩,
 ⟨⟨.no,.mv (.t P6_0),some P6_47⟩,.val,0,0⟩,
 ⟨⟨.no,.mv (.t P6_9),some P6_48⟩,.val,0,0⟩,
 ⟨⟨.no,.ixSl 5 (.t P6_47) (.t P6_48),some P6_49⟩,.val,0,0⟩,
 ⟨⟨.no,.load true 5 (.t P6_49),some P6_50⟩,.read,0,0⟩,
 ⟨⟨.no,.ixSl 5 (.t P6_37) (.t P6_38),some P6_51⟩,.val,0,0⟩,
 ⟨⟨.no,.store 5 (.t P6_51) (.t P6_46),none⟩,.eff,0,1⟩,
 ⟨⟨.no,.ixSl 5 (.t P6_39) (.t P6_41),some P6_52⟩,.val,1,1⟩,
 ⟨⟨.no,.store 5 (.t P6_52) (.t P6_50),none⟩,.eff,1,2⟩]))
 (.reg [⟨.no,.mv (.t P6_9),some P6_35⟩,
 ⟨.no,.bin .sub (.t P6_35) (.c (.int .i64 (.ofNat 1))),some P6_36⟩,
 ⟨.no,.mv (.t P6_36),some P6_9⟩])))))))
 (.reg [⟨.no,.mv (.t P6_8),some P6_15⟩,
 ⟨.no,.bin .add (.t P6_15) (.c (.int .i64 (.ofNat 1))),some P6_16⟩,
 ⟨.no,.mv (.t P6_16),some P6_8⟩])))))), [], 0, false, false⟩
noncomputable def rf_space_turn : RFn := ⟨apOf 5 0 2, mkU 5, (.seq (.reg [⟨.no,.box (.t P5_0),some P5_2⟩,
 ⟨.no,.alloc [(.int .i64 (.ofNat 0)),(.int .i64 (.ofNat 0)),(.str []),(.str [])],some P5_4⟩])
 (.seq (.reg [⟨.no,.mv (.t P5_1),some P5_7⟩,
 ⟨.no,.conv (.toInt .i64) (.t P5_7),some P5_8⟩,
 ⟨.no,.bin .sub (.t P5_8) (.c (.int .i64 (.ofNat 1))),some P5_9⟩,
 ⟨.no,.mv (.t P5_9),some P5_5⟩])
 (.seq (.reg [⟨.no,.faddr 4 1 (.t P5_2),some P5_10⟩,
 ⟨.no,.load false 1 (.t P5_10),some P5_11⟩,
 ⟨.no,.ixSl 1 (.t P5_11) (.c (.int .i64 (.ofNat 0))),some P5_12⟩,
 ⟨.no,.load false 1 (.t P5_12),some P5_13⟩,
 ⟨.no,.mv (.t P5_5),some P5_14⟩,
 ⟨.no,.bin .quo (.t P5_14) (.c (.int .i64 (.ofNat 8))),some P5_15⟩,
 ⟨.no,.ixStr (.t P5_13) (.t P5_15),some P5_16⟩,
 ⟨.no,.mv (.t P5_16),some P5_6⟩])
 (.seq (.draw [] 15 [⟨⟨.no,.mv (.t P5_5),some P5_17⟩,.val,0,0⟩,
 ⟨⟨.no,.bin .quo (.t P5_17) (.c (.int .i64 (.ofNat 8))),some P5_18⟩,.val,0,0⟩,
 ⟨⟨.no,.mv (.t P5_6),some P5_19⟩,.val,0,0⟩,
 ⟨⟨.no,.mv (.t P5_5),some P5_20⟩,.val,0,0⟩,
 ⟨⟨.no,.bin .rem (.t P5_20) (.c (.int .i64 (.ofNat 8))),some P5_21⟩,.val,0,0⟩,
 ⟨⟨.no,.bin .shl (.c (.int .u8 (.ofNat 1))) (.t P5_21),some P5_22⟩,.val,0,0⟩,
 ⟨⟨.no,.bin .xor (.t P5_19) (.t P5_22),some P5_23⟩,.val,0,0⟩,
 ⟨⟨.no,.buildSl 1 [(.int .u8 (.ofNat 0))] [(0,1,(.t P5_23))],some P5_24⟩,.val,0,0⟩,
 ⟨⟨.no,.conv .toStr (.t P5_24),some P5_25⟩,.read,0,0⟩,
 ⟨⟨.no,.mv (.t P5_6),some P5_26⟩,.val,0,0⟩,
 ⟨⟨.no,.buildSl 1 [(.int .u8 (.ofNat 0))] [(0,1,(.t P5_26))],some P5_27⟩,.val,0,0⟩,
 ⟨⟨.no,.conv .toStr (.t P5_27),some P5_28⟩,.read,0,0⟩,
 ⟨⟨.no,.build [(.int .i64 (.ofNat 0)),(.int .i64 (.ofNat 0)),(.str []),(.str [])] [(0,1,(.c (.int .i64 (.ofNat 6)))),(1,1,(.t P5_18)),(2,1,(.t P5_25)),(3,1,(.t P5_28))],some P5_29⟩,.val,0,0⟩,
 ⟨⟨.no,.store 4 (.t P5_4) (.t P5_29),none⟩,.eff,0,1⟩])
 .ret)))), [.cell true 4 P5_4], 0, false, false⟩
noncomputable def rf_page_Check : RFn := ⟨apOf 8 0 1, mkU 8, (.seq (.reg [⟨.no,.box (.t P8_0),some P8_1⟩,
 ⟨.no,.mv (.c (.int .i64 (.ofNat 0))),some P8_2⟩])
 (.seq (.reg [⟨.no,.faddr 2 1 (.t P8_1),some P8_5⟩,
 ⟨.no,.load false 1 (.t P8_5),some P8_6⟩,
 ⟨.no,.len .str (.t P8_6),some P8_7⟩,
 ⟨.no,.bin .leq (.t P8_7) (.c (.int .i64 (.ofNat 512))),some P8_8⟩,
 ⟨.no,.mv (.t P8_8),some P8_9⟩,
 ⟨(.on P8_9 true),.faddr 3 1 (.t P8_1),some P8_10⟩,
 ⟨(.on P8_9 true),.load false 1 (.t P8_10),some P8_11⟩,
 ⟨(.on P8_9 true),.len .str (.t P8_11),some P8_12⟩,
 ⟨(.on P8_9 true),.bin .leq (.t P8_12) (.c (.int .i64 (.ofNat 512))),some P8_13⟩,
 ⟨.no,.pick (.t P8_9) (.t P8_13) (.c (.bool false)),some P8_14⟩,
 ⟨.no,.mv (.t P8_14),some P8_3⟩])
 (.seq (.reg [⟨.no,.faddr 1 1 (.t P8_1),some P8_15⟩,
 ⟨.no,.load false 1 (.t P8_15),some P8_16⟩,
 ⟨.no,.bin .geq (.t P8_16) (.c (.int .i64 (.ofNat 0))),some P8_17⟩,
 ⟨.no,.mv (.t P8_17),some P8_18⟩,
 ⟨(.on P8_18 true),.faddr 1 1 (.t P8_1),some P8_19⟩,
 ⟨(.on P8_18 true),.load false 1 (.t P8_19),some P8_20⟩,
 ⟨(.on P8_18 true),.bin .lss (.t P8_20) (.c (.int .i64 (.ofNat 64))),some P8_21⟩,
 ⟨.no,.pick (.t P8_18) (.t P8_21) (.c (.bool false)),some P8_22⟩,
 ⟨.no,.mv (.t P8_22),some P8_4⟩])
 (.seq (.seq (.reg [⟨.no,.faddr 0 1 (.t P8_1),some P8_23⟩,
 ⟨.no,.load false 1 (.t P8_23),some P8_24⟩])
 (.block 0 (.seq (.reg [⟨.no,.eq .int (.t P8_24) (.c (.int .i64 (.ofNat 1))),some P8_26⟩,
 ⟨.no,.mv (.t P8_26),some P8_25⟩])
 (.cond (.t P8_25) (.reg [⟨.no,.mv (.t P8_3),some P8_27⟩,
 ⟨.no,.mv (.t P8_27),some P8_28⟩,
 ⟨(.on P8_28 true),.faddr 1 1 (.t P8_1),some P8_29⟩,
 ⟨(.on P8_28 true),.load false 1 (.t P8_29),some P8_30⟩,
 ⟨(.on P8_28 true),.bin .geq (.t P8_30) (.c (.int .i64 (.ofNat 0))),some P8_31⟩,
 ⟨.no,.pick (.t P8_28) (.t P8_31) (.c (.bool false)),some P8_32⟩,
 ⟨.no,.mv (.t P8_32),some P8_33⟩,
 ⟨(.on P8_33 true),.faddr 1 1 (.t P8_1),some P8_34⟩,
 ⟨(.on P8_33 true),.load false 1 (.t P8_34),some P8_35⟩,
 ⟨(.on P8_33 true),.bin .leq (.t P8_35) (.c (.int .i64 (.ofNat 255))),some P8_36⟩,
 ⟨.no,.pick (.t P8_33) (.t P8_36) (.c (.bool false)),some P8_37⟩,
 ⟨.no,.mv (.t P8_37),some P8_38⟩,
 ⟨(.on P8_38 true),.faddr 2 1 (.t P8_1),some P8_39⟩,
 ⟨(.on P8_38 true),.load false 1 (.t P8_39),some P8_40⟩,
 ⟨(.on P8_38 true),.len .str (.t P8_40),some P8_41⟩,
 ⟨(.on P8_38 true),.bin .leq (.t P8_41) (.c (.int .i64 (.ofNat 32))),some P8_42⟩,
 ⟨.no,.pick (.t P8_38) (.t P8_42) (.c (.bool false)),some P8_43⟩,
 ⟨.no,.mv (.t P8_43),some P8_44⟩,
 ⟨(.on P8_44 true),.faddr 3 1 (.t P8_1),some P8_45⟩,
 ⟨(.on P8_44 true),.load false 1 (.t P8_45),some P8_46⟩,
 ⟨(.on P8_44 true),.eq .str (.t P8_46) (.c (.str [])),some P8_47⟩,
 ⟨.no,.pick (.t P8_44) (.t P8_47) (.c (.bool false)),some P8_48⟩,
 ⟨.no,.mv (.t P8_48),some P8_3⟩])
 (.seq (.reg [⟨.no,.eq .int (.t P8_24) (.c (.int .i64 (.ofNat 2))),some P8_50⟩,
 ⟨.no,.mv (.t P8_50),some P8_49⟩])
 (.cond (.t P8_49) (.reg [⟨.no,.mv (.t P8_3),some P8_51⟩,
 ⟨.no,.mv (.t P8_51),some P8_52⟩,
 ⟨(.on P8_52 true),.mv (.t P8_4),some P8_53⟩,
 ⟨.no,.pick (.t P8_52) (.t P8_53) (.c (.bool false)),some P8_54⟩,
 ⟨.no,.mv (.t P8_54),some P8_55⟩,
 ⟨(.on P8_55 true),.faddr 3 1 (.t P8_1),some P8_56⟩,
 ⟨(.on P8_55 true),.load false 1 (.t P8_56),some P8_57⟩,
 ⟨(.on P8_55 true),.eq .str (.t P8_57) (.c (.str [])),some P8_58⟩,
 ⟨.no,.pick (.t P8_55) (.t P8_58) (.c (.bool false)),some P8_59⟩,
 ⟨.no,.mv (.t P8_59),some P8_3⟩])
 (.seq (.reg [⟨.no,.eq .int (.t P8_24) (.c (.int .i64 (.ofNat 3))),some P8_61⟩,
 ⟨.no,.mv (.t P8_61),some P8_60⟩])
 (.cond (.t P8_60) (.reg [⟨.no,.mv (.t P8_3),some P8_62⟩,
 ⟨.no,.mv (.t P8_62),some P8_63⟩,
 ⟨(.on P8_63 true),.mv (.t P8_4),some P8_64⟩,
 ⟨.no,.pick (.t P8_63) (.t P8_64) (.c (.bool false)),some P8_65⟩,
 ⟨.no,.mv (.t P8_65),some P8_66⟩,
 ⟨(.on P8_66 true),.faddr 2 1 (.t P8_1),some P8_67⟩,
 ⟨(.on P8_66 true),.load false 1 (.t P8_67),some P8_68⟩,
 ⟨(.on P8_66 true),.eq .str (.t P8_68) (.c (.str [])),some P8_69⟩,
 ⟨.no,.pick (.t P8_66) (.t P8_69) (.c (.bool false)),some P8_70⟩,
 ⟨.no,.mv (.t P8_70),some P8_3⟩])
 (.seq (.reg [⟨.no,.eq .int (.t P8_24) (.c (.int .i64 (.ofNat 4))),some P8_72⟩,
 ⟨.no,.mv (.t P8_72),some P8_71⟩])
 (.cond (.t P8_71) (.reg [⟨.no,.mv (.t P8_3),some P8_73⟩,
 ⟨.no,.mv (.t P8_73),some P8_74⟩,
 ⟨(.on P8_74 true),.mv (.t P8_4),some P8_75⟩,
 ⟨.no,.pick (.t P8_74) (.t P8_75) (.c (.bool false)),some P8_76⟩,
 ⟨.no,.mv (.t P8_76),some P8_3⟩])
 (.seq (.reg [⟨.no,.eq .int (.t P8_24) (.c (.int .i64 (.ofNat 5))),some P8_78⟩,
 ⟨.no,.mv (.t P8_78),some P8_77⟩])
 (.cond (.t P8_77) (.reg [⟨.no,.mv (.t P8_3),some P8_79⟩,
 ⟨.no,.mv (.t P8_79),some P8_80⟩,
 ⟨(.on P8_80 true),.faddr 1 1 (.t P8_1),some P8_81⟩,
 ⟨(.on P8_80 true),.load false 1 (.t P8_81),some P8_82⟩,
 ⟨(.on P8_80 true),.eq .int (.t P8_82) (.c (.int .i64 (.ofNat 0))),some P8_83⟩,
 ⟨.no,.pick (.t P8_80) (.t P8_83) (.c (.bool false)),some P8_84⟩,
 ⟨.no,.mv (.t P8_84),some P8_85⟩,
 ⟨(.on P8_85 true),.faddr 2 1 (.t P8_1),some P8_86⟩,
 ⟨(.on P8_85 true),.load false 1 (.t P8_86),some P8_87⟩,
 ⟨(.on P8_85 true),.len .str (.t P8_87),some P8_88⟩,
 ⟨(.on P8_85 true),.bin .leq (.t P8_88) (.c (.int .i64 (.ofNat 32))),some P8_89⟩,
 ⟨.no,.pick (.t P8_85) (.t P8_89) (.c (.bool false)),some P8_90⟩,
 ⟨.no,.mv (.t P8_90),some P8_91⟩,
 ⟨(.on P8_91 true),.faddr 3 1 (.t P8_1),some P8_92⟩,
 ⟨(.on P8_91 true),.load false 1 (.t P8_92),some P8_93⟩,
 ⟨(.on P8_91 true),.len .str (.t P8_93),some P8_94⟩,
 ⟨(.on P8_91 true),.bin .leq (.t P8_94) (.c (.int .i64 (.ofNat 32))),some P8_95⟩,
 ⟨.no,.pick (.t P8_91) (.t P8_95) (.c (.bool false)),some P8_96⟩,
 ⟨.no,.mv (.t P8_96),some P8_3⟩])
 (.seq (.reg [⟨.no,.eq .int (.t P8_24) (.c (.int .i64 (.ofNat 6))),some P8_98⟩,
 ⟨.no,.mv (.t P8_98),some P8_97⟩])
 (.cond (.t P8_97) (.reg [⟨.no,.mv (.t P8_3),some P8_99⟩,
 ⟨.no,.mv (.t P8_99),some P8_100⟩,
 ⟨(.on P8_100 true),.faddr 1 1 (.t P8_1),some P8_101⟩,
 ⟨(.on P8_100 true),.load false 1 (.t P8_101),some P8_102⟩,
 ⟨(.on P8_100 true),.bin .geq (.t P8_102) (.c (.int .i64 (.ofNat 0))),some P8_103⟩,
 ⟨.no,.pick (.t P8_100) (.t P8_103) (.c (.bool false)),some P8_104⟩,
 ⟨.no,.mv (.t P8_104),some P8_105⟩,
 ⟨(.on P8_105 true),.faddr 1 1 (.t P8_1),some P8_106⟩,
 ⟨(.on P8_105 true),.load false 1 (.t P8_106),some P8_107⟩,
 ⟨(.on P8_105 true),.bin .lss (.t P8_107) (.c (.int .i64 (.ofNat 512))),some P8_108⟩,
 ⟨.no,.pick (.t P8_105) (.t P8_108) (.c (.bool false)),some P8_109⟩,
 ⟨.no,.mv (.t P8_109),some P8_110⟩,
 ⟨(.on P8_110 true),.faddr 2 1 (.t P8_1),some P8_111⟩,
 ⟨(.on P8_110 true),.load false 1 (.t P8_111),some P8_112⟩,
 ⟨(.on P8_110 true),.len .str (.t P8_112),some P8_113⟩,
 ⟨(.on P8_110 true),.faddr 3 1 (.t P8_1),some P8_114⟩,
 ⟨(.on P8_110 true),.load false 1 (.t P8_114),some P8_115⟩,
 ⟨(.on P8_110 true),.len .str (.t P8_115),some P8_116⟩,
 ⟨(.on P8_110 true),.eq .int (.t P8_113) (.t P8_116),some P8_117⟩,
 ⟨.no,.pick (.t P8_110) (.t P8_117) (.c (.bool false)),some P8_118⟩,
 ⟨.no,.mv (.t P8_118),some P8_119⟩,
 ⟨(.on P8_119 true),.faddr 2 1 (.t P8_1),some P8_120⟩,
 ⟨(.on P8_119 true),.load false 1 (.t P8_120),some P8_121⟩,
 ⟨(.on P8_119 true),.ne .str (.t P8_121) (.c (.str [])),some P8_122⟩,
 ⟨.no,.pick (.t P8_119) (.t P8_122) (.c (.bool false)),some P8_123⟩,
 ⟨.no,.mv (.t P8_123),some P8_3⟩])
 (.seq (.reg [⟨.no,.eq .int (.t P8_24) (.c (.int .i64 (.ofNat 7))),some P8_125⟩,
 ⟨.no,.mv (.t P8_125),some P8_124⟩])
 (.cond (.t P8_124) (.reg [⟨.no,.mv (.t P8_3),some P8_126⟩,
 ⟨.no,.mv (.t P8_126),some P8_127⟩,
 ⟨(.on P8_127 true),.faddr 1 1 (.t P8_1),some P8_128⟩,
 ⟨(.on P8_127 true),.load false 1 (.t P8_128),some P8_129⟩,
 ⟨(.on P8_127 true),.eq .int (.t P8_129) (.c (.int .i64 (.ofNat 0))),some P8_130⟩,
 ⟨.no,.pick (.t P8_127) (.t P8_130) (.c (.bool false)),some P8_131⟩,
 ⟨.no,.mv (.t P8_131),some P8_132⟩,
 ⟨(.on P8_132 true),.faddr 2 1 (.t P8_1),some P8_133⟩,
 ⟨(.on P8_132 true),.load false 1 (.t P8_133),some P8_134⟩,
 ⟨(.on P8_132 true),.call (.c (.fn f_page_kindOf [] [])) [(.t P8_134)],some P8_135⟩,
 ⟨.no,.pick (.t P8_132) (.t P8_135) (.c (.bool false)),some P8_136⟩,
 ⟨.no,.mv (.t P8_136),some P8_137⟩,
 ⟨(.on P8_137 true),.faddr 3 1 (.t P8_1),some P8_138⟩,
 ⟨(.on P8_137 true),.load false 1 (.t P8_138),some P8_139⟩,
 ⟨(.on P8_137 true),.call (.c (.fn f_page_kindOf [] [])) [(.t P8_139)],some P8_140⟩,
 ⟨.no,.pick (.t P8_137) (.t P8_140) (.c (.bool false)),some P8_141⟩,
 ⟨.no,.mv (.t P8_141),some P8_3⟩])
 (.reg [⟨.no,.mv (.c (.bool false)),some P8_3⟩])))))))))))))))))
 (.seq (.seq (.reg [⟨.no,.mv (.t P8_3),some P8_142⟩,
 ⟨.no,.un .not (.t P8_142),some P8_143⟩])
 (.cond (.t P8_143) (.seq (.reg [⟨.no,.mv (.c (.int .i64 (.ofNat 33))),some P8_2⟩])
 .ret)
 .skip))
 (.seq (.reg [⟨.no,.mv (.c (.int .i64 (.ofNat 0))),some P8_2⟩])
 .ret)))))), [.t P8_2], 0, false, false⟩
noncomputable def rf_disk_Disk_may : RFn := ⟨apOf 5 0 2, mkU 5, (.seq (.reg [⟨.no,.mv (.c (.int .i64 (.ofNat 0))),some P5_4⟩])
 (.seq (.seq (.reg [⟨.no,.mv (.t P5_1),some P5_6⟩,
 ⟨.no,.conv (.toInt .i64) (.t P5_6),some P5_7⟩,
 ⟨.no,.mv (.t P5_7),some P5_5⟩])
 (.block 0 (.seq (.reg [⟨.no,.mv (.t P5_5),some P5_9⟩,
 ⟨.no,.bin .lss (.t P5_9) (.c (.int .i64 (.ofNat 1))),some P5_10⟩,
 ⟨.no,.mv (.t P5_10),some P5_11⟩,
 ⟨(.on P5_11 false),.mv (.t P5_5),some P5_12⟩,
 ⟨(.on P5_11 false),.bin .gtr (.t P5_12) (.c (.int .i64 (.ofNat 4096))),some P5_13⟩,
 ⟨.no,.pick (.t P5_11) (.c (.bool true)) (.t P5_13),some P5_14⟩,
 ⟨.no,.mv (.t P5_14),some P5_8⟩])
 (.cond (.t P5_8) (.seq (.reg [⟨.no,.mv (.c (.int .i64 (.ofNat 1))),some P5_4⟩])
 .ret)
 (.seq (.reg [⟨.no,.mv (.t P5_5),some P5_16⟩,
 ⟨.no,.bin .sub (.t P5_16) (.c (.int .i64 (.ofNat 1))),some P5_17⟩,
 ⟨.no,.bin .rem (.t P5_17) (.c (.int .i64 (.ofNat 2048))),some P5_18⟩,
 ⟨.no,.mv (.t P5_0),some P5_19⟩,
 ⟨.no,.nilc (.t P5_19),some P5_20⟩,
 ⟨.no,.faddr 0 1 (.t P5_20),some P5_21⟩,
 ⟨.no,.load false 1 (.t P5_21),some P5_22⟩,
 ⟨.no,.bin .geq (.t P5_18) (.t P5_22),some P5_23⟩,
 ⟨.no,.mv (.t P5_23),some P5_15⟩])
 (.cond (.t P5_15) (.seq (.reg [⟨.no,.mv (.c (.int .i64 (.ofNat 20))),some P5_4⟩])
 .ret)
 .skip))))))
 (.seq (.reg [⟨.no,.mv (.c (.int .i64 (.ofNat 0))),some P5_4⟩])
 .ret))), [.t P5_4], 0, false, false⟩
noncomputable def rf_cmp_isNaN_string : RFn := ⟨apOf 3 0 1, mkU 3, (.seq (.reg [⟨.no,.mv (.c (.bool false)),some P3_2⟩])
 (.seq (.reg [⟨.no,.mv (.t P3_0),some P3_3⟩,
 ⟨.no,.mv (.t P3_0),some P3_4⟩,
 ⟨.no,.ne .str (.t P3_3) (.t P3_4),some P3_5⟩,
 ⟨.no,.mv (.t P3_5),some P3_2⟩])
 .ret)), [.t P3_2], 0, false, false⟩
noncomputable def rf_cmp_isNaN_api_Page : RFn := ⟨apOf 3 0 1, mkU 3, (.seq (.reg [⟨.no,.mv (.c (.bool false)),some P3_2⟩])
 (.seq (.reg [⟨.no,.mv (.t P3_0),some P3_3⟩,
 ⟨.no,.mv (.t P3_0),some P3_4⟩,
 ⟨.no,.ne .int (.t P3_3) (.t P3_4),some P3_5⟩,
 ⟨.no,.mv (.t P3_5),some P3_2⟩])
 .ret)), [.t P3_2], 0, false, false⟩
noncomputable def rf_raw_Writer_Text : RFn := ⟨apOf 5 0 2, mkU 5, (.seq (.reg [⟨.no,.mv (.c (.int .i64 (.ofNat 0))),some P5_4⟩])
 (.seq (.seq (.reg [⟨.no,.mv (.t P5_0),some P5_7⟩,
 ⟨.no,.eq .ptr (.t P5_7) (.c .nilp),some P5_8⟩])
 (.cond (.t P5_8) (.seq (.reg [⟨.no,.mv (.c (.int .i64 (.ofNat 1))),some P5_4⟩])
 .ret)
 .skip))
 (.seq (.reg [⟨.no,.mv (.t P5_1),some P5_10⟩,
 ⟨.no,.call (.c (.fn f_raw_Text [] [])) [(.t P5_10)],some P5_11⟩,
 ⟨.no,.mv (.t P5_11),some P5_9⟩,
 ⟨.no,.extr (.t P5_9) 0,some P5_12⟩,
 ⟨.no,.extr (.t P5_9) 1,some P5_13⟩,
 ⟨.no,.mv (.t P5_12),some P5_5⟩,
 ⟨.no,.mv (.t P5_13),some P5_6⟩])
 (.seq (.reg [⟨.no,.mv (.t P5_0),some P5_14⟩,
 ⟨.no,.mv (.t P5_5),some P5_15⟩,
 ⟨.no,.call (.c (.fn f_raw_Writer_Bytes [] [])) [(.t P5_14),(.t P5_15)],some P5_16⟩])
 (.seq (.reg [⟨.no,.mv (.t P5_6),some P5_17⟩,
 ⟨.no,.mv (.t P5_17),some P5_4⟩])
 .ret))))), [.t P5_4], 0, false, false⟩
noncomputable def rf_raw_Text : RFn := ⟨apOf 4 0 1, mkU 4, (.seq (.reg [⟨.no,.mv (.c (.str [])),some P4_2⟩,
 ⟨.no,.mv (.c (.int .i64 (.ofNat 0))),some P4_3⟩])
 (.seq (.seq (.reg [⟨.no,.mv (.t P4_0),some P4_4⟩,
 ⟨.no,.len .str (.t P4_4),some P4_5⟩,
 ⟨.no,.bin .gtr (.t P4_5) (.c (.int .i64 (.ofNat 65535))),some P4_6⟩])
 (.cond (.t P4_6) (.seq (.reg [⟨.no,.mv (.c (.str [])),some P4_2⟩,
 ⟨.no,.mv (.c (.int .i64 (.ofNat 5))),some P4_3⟩])
 .ret)
 .skip))
 (.seq (.reg [⟨.no,.mv (.t P4_0),some P4_7⟩,
 ⟨.no,.len .str (.t P4_7),some P4_8⟩,
 ⟨.no,.conv (.toInt .u64) (.t P4_8),some P4_9⟩,
 ⟨.no,.call (.c (.fn f_raw_Put [] [])) [(.t P4_9),(.c (.int .i64 (.ofNat 2)))],some P4_10⟩,
 ⟨.no,.mv (.t P4_0),some P4_11⟩,
 ⟨.no,.bin .add (.t P4_10) (.t P4_11),some P4_12⟩,
 ⟨.no,.mv (.t P4_12),some P4_2⟩,
 ⟨.no,.mv (.c (.int .i64 (.ofNat 0))),some P4_3⟩])
 .ret))), [.t P4_2,.t P4_3], 0, false, false⟩
noncomputable def s_raw_More_6 : RC := (.seq (.reg [⟨.no,.mv (.t P6_5),some P6_32⟩,
 ⟨.no,.bin .xor (.t P6_32) (.c (.int .u32 (.ofNat 4294967295))),some P6_33⟩,
 ⟨.no,.mv (.t P6_33),some P6_4⟩])
 .ret)
noncomputable def c_raw_More_6 : RC := s_raw_More_6 
noncomputable def S_raw_More_6 (call : Oracle) (e : Env) (n : Nat) (kR : V → Hp → Option (V × Hp)) (g5 : V) (h : Hp) : Option (V × Hp) :=
    sv (aBin .xor g5 (.int .u32 (.ofNat 4294967295))) h fun t33 h1 => kR t33 h1
theorem F_raw_More_6 (call : Oracle) (e : Env) (n : Nat) (K : KT (V × Hp)) (G : Nat → V) (h : Hp) : rCode call e n (s_raw_More_6 ) K (mkF 6 0 G) h =
    sv (aBin .xor (G 5) (.int .u32 (.ofNat 4294967295))) h fun t33 h1 => K .ret (mkF 6 0 (up [(4, t33), (32, (G 5)), (33, t33)] G)) h1 := by kernel_rfl
theorem J_raw_More_6 (call : Oracle) (e : Env) (n : Nat) (K : KT (V × Hp)) (kR : V → Hp → Option (V × Hp)) (hR : ∀ G H, K .ret (mkF 6 0 G) H = kR (G 4) H) (G : Nat → V) (H : Hp) : rCode call e n c_raw_More_6 K (mkF 6 0 G) H = S_raw_More_6 call e n kR (G 5) H := by
  refine (F_raw_More_6 call e n  K G H).trans ?_
  simp only [hR]
  kernel_rfl
noncomputable def s_raw_More_5 : RC := (.reg [⟨.no,.bin .add (.t P6_11) (.c (.int .i64 (.ofNat 1))),some P6_31⟩,
 ⟨.no,.mv (.t P6_31),some P6_11⟩])
noncomputable def c_raw_More_5 : RC := s_raw_More_5 
noncomputable def S_raw_More_5 (call : Oracle) (e : Env) (n : Nat) (kN : V → V → V → V → Hp → Option (V × Hp)) (g1 g5 g10 g11 : V) (h : Hp) : Option (V × Hp) :=
    sv (aBin .add g11 (.int .i64 (.ofNat 1))) h fun t31 h1 => kN g1 g5 g10 t31 h1
theorem F_raw_More_5 (call : Oracle) (e : Env) (n : Nat) (K : KT (V × Hp)) (G : Nat → V) (h : Hp) : rCode call e n (s_raw_More_5 ) K (mkF 6 0 G) h =
    sv (aBin .add (G 11) (.int .i64 (.ofNat 1))) h fun t31 h1 => K .normal (mkF 6 0 (up [(11, t31), (31, t31)] G)) h1 := by kernel_rfl
theorem J_raw_More_5 (call : Oracle) (e : Env) (n : Nat) (K : KT (V × Hp)) (kN : V → V → V → V → Hp → Option (V × Hp)) (hN : ∀ G H, K .normal (mkF 6 0 G) H = kN (G 1) (G 5) (G 10) (G 11) H) (G : Nat → V) (H : Hp) : rCode call e n c_raw_More_5 K (mkF 6 0 G) H = S_raw_More_5 call e n kN (G 1) (G 5) (G 10) (G 11) H := by
  refine (F_raw_More_5 call e n  K G H).trans ?_
  simp only [hN]
  kernel_rfl
noncomputable def s_raw_More_4 : RC := (.seq (.reg [⟨.no,.bin .lss (.t P6_20) (.c (.int .i64 (.ofNat 8))),some P6_21⟩])
 (.seq (.cond (.t P6_21) .skip
 (.exit 2))
 (.seq (.block 3 (.seq (.reg [⟨.no,.mv (.t P6_5),some P6_22⟩,
 ⟨.no,.bin .and (.t P6_22) (.c (.int .u32 (.ofNat 1))),some P6_23⟩,
 ⟨.no,.eq .int (.t P6_23) (.c (.int .u32 (.ofNat 1))),some P6_24⟩])
 (.cond (.t P6_24) (.reg [⟨.no,.mv (.t P6_5),some P6_25⟩,
 ⟨.no,.bin .shr (.t P6_25) (.c (.int .u64 (.ofNat 1))),some P6_26⟩,
 ⟨.no,.bin .xor (.t P6_26) (.c (.int .u32 (.ofNat 2197175160))),some P6_27⟩,
 ⟨.no,.mv (.t P6_27),some P6_5⟩])
 (.reg [⟨.no,.mv (.t P6_5),some P6_28⟩,
 ⟨.no,.bin .shr (.t P6_28) (.c (.int .u64 (.ofNat 1))),some P6_29⟩,
 ⟨.no,.mv (.t P6_29),some P6_5⟩]))))
 (.reg [⟨.no,.bin .add (.t P6_20) (.c (.int .i64 (.ofNat 1))),some P6_30⟩,
 ⟨.no,.mv (.t P6_30),some P6_20⟩]))))
noncomputable def c_raw_More_4 : RC := s_raw_More_4 
noncomputable def S_raw_More_4 (call : Oracle) (e : Env) (n : Nat) (kN : V → V → V → V → V → Hp → Option (V × Hp)) (kX2 : V → V → V → V → Hp → Option (V × Hp)) (g1 g5 g10 g11 g20 : V) (h : Hp) : Option (V × Hp) :=
    sv (aBin .lss g20 (.int .i64 (.ofNat 8))) h fun t21 h1 =>
    ifB t21 (
      sv (aBin .and g5 (.int .u32 (.ofNat 1))) h1 fun t23 h2 =>
      sv (pEq .int t23 (.int .u32 (.ofNat 1))) h2 fun t24 h3 =>
      ifB t24 (
        sv (aBin .shr g5 (.int .u64 (.ofNat 1))) h3 fun t26 h4 =>
        sv (aBin .xor t26 (.int .u32 (.ofNat 2197175160))) h4 fun t27 h5 =>
        sv (aBin .add g20 (.int .i64 (.ofNat 1))) h5 fun t30 h6 => kN g1 t27 g10 g11 t30 h6)
       (
        sv (aBin .shr g5 (.int .u64 (.ofNat 1))) h3 fun t29 h7 =>
        sv (aBin .add g20 (.int .i64 (.ofNat 1))) h7 fun t30_1 h8 => kN g1 t29 g10 g11 t30_1 h8))
     ( kX2 g1 g5 g10 g11 h1)
theorem F_raw_More_4 (call : Oracle) (e : Env) (n : Nat) (K : KT (V × Hp)) (G : Nat → V) (h : Hp) : rCode call e n (s_raw_More_4 ) K (mkF 6 0 G) h =
    sv (aBin .lss (G 20) (.int .i64 (.ofNat 8))) h fun t21 h1 =>
    ifB t21 (
      sv (aBin .and (G 5) (.int .u32 (.ofNat 1))) h1 fun t23 h2 =>
      sv (pEq .int t23 (.int .u32 (.ofNat 1))) h2 fun t24 h3 =>
      ifB t24 (
        sv (aBin .shr (G 5) (.int .u64 (.ofNat 1))) h3 fun t26 h4 =>
        sv (aBin .xor t26 (.int .u32 (.ofNat 2197175160))) h4 fun t27 h5 =>
        sv (aBin .add (G 20) (.int .i64 (.ofNat 1))) h5 fun t30 h6 => K .normal (mkF 6 0 (up [(5, t27), (20, t30), (21, t21), (22, (G 5)), (23, t23), (24, t24), (25, (G 5)), (26, t26), (27, t27), (30, t30)] G)) h6)
       (
        sv (aBin .shr (G 5) (.int .u64 (.ofNat 1))) h3 fun t29 h7 =>
        sv (aBin .add (G 20) (.int .i64 (.ofNat 1))) h7 fun t30_1 h8 => K .normal (mkF 6 0 (up [(5, t29), (20, t30_1), (21, t21), (22, (G 5)), (23, t23), (24, t24), (28, (G 5)), (29, t29), (30, t30_1)] G)) h8))
     ( K (.exit 2) (mkF 6 0 (up [(21, t21)] G)) h1) := by kernel_rfl
theorem J_raw_More_4 (call : Oracle) (e : Env) (n : Nat) (K : KT (V × Hp)) (kN : V → V → V → V → V → Hp → Option (V × Hp)) (hN : ∀ G H, K .normal (mkF 6 0 G) H = kN (G 1) (G 5) (G 10) (G 11) (G 20) H) (kX2 : V → V → V → V → Hp → Option (V × Hp)) (hX2 : ∀ G H, K (.exit 2) (mkF 6 0 G) H = kX2 (G 1) (G 5) (G 10) (G 11) H) (G : Nat → V) (H : Hp) : rCode call e n c_raw_More_4 K (mkF 6 0 G) H = S_raw_More_4 call e n kN kX2 (G 1) (G 5) (G 10) (G 11) (G 20) H := by
  refine (F_raw_More_4 call e n  K G H).trans ?_
  simp only [hN, hX2]
  kernel_rfl
noncomputable def s_raw_More_3 (b0 : RC) : RC := (.loop b0)
noncomputable def c_raw_More_3 : RC := s_raw_More_3 c_raw_More_4
noncomputable def S_raw_More_3L (call : Oracle) (e : Env) (n : Nat) (kX2 : V → V → V → V → Hp → Option (V × Hp)) : Nat → V → V → V → V → V → Hp → Option (V × Hp)
  | 0, _, _, _, _, _, _ => none
  | m + 1, g1, g5, g10, g11, g20, h => S_raw_More_4 call e n (fun g1 g5 g10 g11 g20 h => S_raw_More_3L call e n kX2 m g1 g5 g10 g11 g20 h) kX2 g1 g5 g10 g11 g20 h
noncomputable def S_raw_More_3 (call : Oracle) (e : Env) (n : Nat) (kX2 : V → V → V → V → Hp → Option (V × Hp)) (g1 g5 g10 g11 g20 : V) (h : Hp) : Option (V × Hp) := S_raw_More_3L call e n kX2 n g1 g5 g10 g11 g20 h
theorem J_raw_More_3L (call : Oracle) (e : Env) (n : Nat) (K : KT (V × Hp)) (kX2 : V → V → V → V → Hp → Option (V × Hp)) (hX2 : ∀ G H, K (.exit 2) (mkF 6 0 G) H = kX2 (G 1) (G 5) (G 10) (G 11) H) : ∀ (m : Nat) (G : Nat → V) (H : Hp), rLoop (fun k => rCode call e n c_raw_More_4 (thenT K k)) m (mkF 6 0 G) H = S_raw_More_3L call e n kX2 m (G 1) (G 5) (G 10) (G 11) (G 20) H
  | 0, _, _ => rfl
  | m + 1, G, H => J_raw_More_4 call e n (thenT K (rLoop (fun k => rCode call e n c_raw_More_4 (thenT K k)) m)) (S_raw_More_3L call e n kX2 m) (J_raw_More_3L call e n K kX2 hX2 m) kX2 hX2 G H
theorem J_raw_More_3 (call : Oracle) (e : Env) (n : Nat) (K : KT (V × Hp)) (kX2 : V → V → V → V → Hp → Option (V × Hp)) (hX2 : ∀ G H, K (.exit 2) (mkF 6 0 G) H = kX2 (G 1) (G 5) (G 10) (G 11) H) (G : Nat → V) (H : Hp) : rCode call e n c_raw_More_3 K (mkF 6 0 G) H = S_raw_More_3 call e n kX2 (G 1) (G 5) (G 10) (G 11) (G 20) H := J_raw_More_3L call e n K kX2 hX2 n G H
noncomputable def s_raw_More_2 (b0 b1 : RC) : RC := (.seq (.reg [⟨.no,.bin .lss (.t P6_11) (.t P6_10),some P6_12⟩])
 (.seq (.cond (.t P6_12) .skip
 (.exit 0))
 (.seq (.block 1 (.seq (.reg [⟨.no,.mv (.t P6_11),some P6_13⟩,
 ⟨.no,.mv (.t P6_13),some P6_6⟩])
 (.seq (.reg [⟨.no,.mv (.t P6_5),some P6_14⟩,
 ⟨.no,.mv (.t P6_1),some P6_15⟩,
 ⟨.no,.mv (.t P6_6),some P6_16⟩,
 ⟨.no,.ixStr (.t P6_15) (.t P6_16),some P6_17⟩,
 ⟨.no,.conv (.toInt .u32) (.t P6_17),some P6_18⟩,
 ⟨.no,.bin .xor (.t P6_14) (.t P6_18),some P6_19⟩,
 ⟨.no,.mv (.t P6_19),some P6_5⟩])
 (.seq (.reg [⟨.no,.mv (.c (.int .i64 (.ofNat 0))),some P6_20⟩])
 (.block 2 b0)))))
 b1)))
noncomputable def c_raw_More_2 : RC := s_raw_More_2 c_raw_More_3 c_raw_More_5
noncomputable def S_raw_More_2 (call : Oracle) (e : Env) (n : Nat) (kN : V → V → V → V → Hp → Option (V × Hp)) (kX0 : V → Hp → Option (V × Hp)) (g1 g5 g10 g11 : V) (h : Hp) : Option (V × Hp) :=
    sv (aBin .lss g11 g10) h fun t12 h1 =>
    ifB t12 (
      sv (aIndexStr g1 g11) h1 fun t17 h2 =>
      sv (pConv (.toInt .u32) t17 h2) h2 fun t18 h3 =>
      sv (aBin .xor g5 t18) h3 fun t19 h4 => S_raw_More_3 call e n (S_raw_More_5 call e n kN) g1 t19 g10 g11 (.int .i64 (.ofNat 0)) h4)
     ( kX0 g5 h1)
theorem F_raw_More_2 (call : Oracle) (e : Env) (n : Nat) (b0 b1 : RC) (K : KT (V × Hp)) (G : Nat → V) (h : Hp) : rCode call e n (s_raw_More_2 b0 b1) K (mkF 6 0 G) h =
    sv (aBin .lss (G 11) (G 10)) h fun t12 h1 =>
    ifB t12 (
      sv (aIndexStr (G 1) (G 11)) h1 fun t17 h2 =>
      sv (pConv (.toInt .u32) t17 h2) h2 fun t18 h3 =>
      sv (aBin .xor (G 5) t18) h3 fun t19 h4 => rCode call e n b0 (inT 2 (inT 1 (thenT K (rCode call e n b1 K)))) (mkF 6 0 (up [(5, t19), (6, (G 11)), (12, t12), (13, (G 11)), (14, (G 5)), (15, (G 1)), (16, (G 11)), (17, t17), (18, t18), (19, t19), (20, (.int .i64 (.ofNat 0)))] G)) h4)
     ( K (.exit 0) (mkF 6 0 (up [(12, t12)] G)) h1) := by kernel_rfl
theorem J_raw_More_2 (call : Oracle) (e : Env) (n : Nat) (K : KT (V × Hp)) (kN : V → V → V → V → Hp → Option (V × Hp)) (hN : ∀ G H, K .normal (mkF 6 0 G) H = kN (G 1) (G 5) (G 10) (G 11) H) (kX0 : V → Hp → Option (V × Hp)) (hX0 : ∀ G H, K (.exit 0) (mkF 6 0 G) H = kX0 (G 5) H) (G : Nat → V) (H : Hp) : rCode call e n c_raw_More_2 K (mkF 6 0 G) H = S_raw_More_2 call e n kN kX0 (G 1) (G 5) (G 10) (G 11) H := by
  refine (F_raw_More_2 call e n c_raw_More_3 c_raw_More_5 K G H).trans ?_
  simp only [J_raw_More_3 call e n (inT 2 (inT 1 (thenT K (rCode call e n c_raw_More_5 K)))) (S_raw_More_5 call e n kN) (J_raw_More_5 call e n K kN hN), hN, hX0]
  kernel_rfl
noncomputable def s_raw_More_1 (b0 : RC) : RC := (.loop b0)
noncomputable def c_raw_More_1 : RC := s_raw_More_1 c_raw_More_2
noncomputable def S_raw_More_1L (call : Oracle) (e : Env) (n : Nat) (kX0 : V → Hp → Option (V × Hp)) : Nat → V → V → V → V → Hp → Option (V × Hp)
  | 0, _, _, _, _, _ => none
  | m + 1, g1, g5, g10, g11, h => S_raw_More_2 call e n (fun g1 g5 g10 g11 h => S_raw_More_1L call e n kX0 m g1 g5 g10 g11 h) kX0 g1 g5 g10 g11 h
noncomputable def S_raw_More_1 (call : Oracle) (e : Env) (n : Nat) (kX0 : V → Hp → Option (V × Hp)) (g1 g5 g10 g11 : V) (h : Hp) : Option (V × Hp) := S_raw_More_1L call e n kX0 n g1 g5 g10 g11 h
theorem J_raw_More_1L (call : Oracle) (e : Env) (n : Nat) (K : KT (V × Hp)) (kX0 : V → Hp → Option (V × Hp)) (hX0 : ∀ G H, K (.exit 0) (mkF 6 0 G) H = kX0 (G 5) H) : ∀ (m : Nat) (G : Nat → V) (H : Hp), rLoop (fun k => rCode call e n c_raw_More_2 (thenT K k)) m (mkF 6 0 G) H = S_raw_More_1L call e n kX0 m (G 1) (G 5) (G 10) (G 11) H
  | 0, _, _ => rfl
  | m + 1, G, H => J_raw_More_2 call e n (thenT K (rLoop (fun k => rCode call e n c_raw_More_2 (thenT K k)) m)) (S_raw_More_1L call e n kX0 m) (J_raw_More_1L call e n K kX0 hX0 m) kX0 hX0 G H
theorem J_raw_More_1 (call : Oracle) (e : Env) (n : Nat) (K : KT (V × Hp)) (kX0 : V → Hp → Option (V × Hp)) (hX0 : ∀ G H, K (.exit 0) (mkF 6 0 G) H = kX0 (G 5) H) (G : Nat → V) (H : Hp) : rCode call e n c_raw_More_1 K (mkF 6 0 G) H = S_raw_More_1 call e n kX0 (G 1) (G 5) (G 10) (G 11) H := J_raw_More_1L call e n K kX0 hX0 n G H
noncomputable def s_raw_More_0 (b0 b1 : RC) : RC := (.seq (.reg [⟨.no,.mv (.c (.int .u32 (.ofNat 0))),some P6_4⟩])
 (.seq (.reg [⟨.no,.mv (.t P6_0),some P6_7⟩,
 ⟨.no,.bin .xor (.t P6_7) (.c (.int .u32 (.ofNat 4294967295))),some P6_8⟩,
 ⟨.no,.mv (.t P6_8),some P6_5⟩])
 (.seq (.seq (.reg [⟨.no,.mv (.t P6_1),some P6_9⟩,
 ⟨.no,.len .str (.t P6_9),some P6_10⟩,
 ⟨.no,.mv (.c (.int .i64 (.ofNat 0))),some P6_11⟩])
 (.block 0 b0))
 b1)))
noncomputable def c_raw_More_0 : RC := s_raw_More_0 c_raw_More_1 c_raw_More_6
noncomputable def S_raw_More_0 (call : Oracle) (e : Env) (n : Nat) (kR : V → Hp → Option (V × Hp)) (g0 g1 : V) (h : Hp) : Option (V × Hp) :=
    sv (aBin .xor g0 (.int .u32 (.ofNat 4294967295))) h fun t8 h1 =>
    sv (pLen .str g1 h1) h1 fun t10 h2 => S_raw_More_1 call e n (S_raw_More_6 call e n kR) g1 t8 t10 (.int .i64 (.ofNat 0)) h2
theorem F_raw_More_0 (call : Oracle) (e : Env) (n : Nat) (b0 b1 : RC) (K : KT (V × Hp)) (G : Nat → V) (h : Hp) : rCode call e n (s_raw_More_0 b0 b1) K (mkF 6 0 G) h =
    sv (aBin .xor (G 0) (.int .u32 (.ofNat 4294967295))) h fun t8 h1 =>
    sv (pLen .str (G 1) h1) h1 fun t10 h2 => rCode call e n b0 (inT 0 (thenT K (rCode call e n b1 K))) (mkF 6 0 (up [(4, (.int .u32 (.ofNat 0))), (5, t8), (7, (G 0)), (8, t8), (9, (G 1)), (10, t10), (11, (.int .i64 (.ofNat 0)))] G)) h2 := by kernel_rfl
theorem J_raw_More_0 (call : Oracle) (e : Env) (n : Nat) (K : KT (V × Hp)) (kR : V → Hp → Option (V × Hp)) (hR : ∀ G H, K .ret (mkF 6 0 G) H = kR (G 4) H) (G : Nat → V) (H : Hp) : rCode call e n c_raw_More_0 K (mkF 6 0 G) H = S_raw_More_0 call e n kR (G 0) (G 1) H := by
  refine (F_raw_More_0 call e n c_raw_More_1 c_raw_More_6 K G H).trans ?_
  simp only [J_raw_More_1 call e n (inT 0 (thenT K (rCode call e n c_raw_More_6 K))) (S_raw_More_6 call e n kR) (J_raw_More_6 call e n K kR hR), hR]
  kernel_rfl
noncomputable def rf_raw_More : RFn := ⟨apOf 6 0 2, mkU 6, c_raw_More_0, [.t P6_4], 0, false, false⟩
noncomputable def S_raw_More (call : Oracle) (n : Nat) (a0 a1 : V) (H : Hp) : Option (V × Hp) := S_raw_More_0 call ⟨false, placeOf 0 (H.depth + 1), H.depth + 1⟩ n (fun g4 h => leave false H.depth [g4] h) a0 a1 (aPush H)
theorem E_raw_More (call : Oracle) (n : Nat) (a0 a1 : V) (H : Hp) : rBody rf_raw_More call n [a0, a1] H = S_raw_More call n a0 a1 H :=
  (show rBody rf_raw_More call n [a0, a1] H = rCode call ⟨false, placeOf 0 (H.depth + 1), H.depth + 1⟩ n c_raw_More_0 (rLeave false [.t P6_4] H.depth) (mkF 6 0 (up [(0, a0), (1, a1)] (fun _ => .undef))) (aPush H) by kernel_rfl).trans (J_raw_More_0 call _ n _ (fun g4 h => leave false H.depth [g4] h) (by intro G H; kernel_rfl) _ (aPush H))
noncomputable def s_index_Table_0 : RC := (.seq (.reg [⟨.no,.alloc [(.int .i64 (.ofNat 0)),(.int .i64 (.ofNat 0)),(.int .u32 (.ofNat 0)),(.int .i64 (.ofNat 0))],some P3_2⟩])
 (.seq (.reg [⟨.no,.mv (.t P3_0),some P3_3⟩,
 ⟨.no,.build [(.int .i64 (.ofNat 0)),(.int .i64 (.ofNat 0)),(.int .u32 (.ofNat 0)),(.int .i64 (.ofNat 0))] [(0,1,(.c (.int .i64 (.ofNat 1)))),(1,1,(.t P3_3))],some P3_4⟩,
 ⟨.no,.store 4 (.t P3_2) (.t P3_4),none⟩])
 .ret))
noncomputable def c_index_Table_0 : RC := s_index_Table_0 
noncomputable def S_index_Table_0 (call : Oracle) (e : Env) (n : Nat) (kR : V → Hp → Option (V × Hp)) (g0 : V) (h : Hp) : Option (V × Hp) :=
    se (pAlloc e.place [(.int .i64 (.ofNat 0)),(.int .i64 (.ofNat 0)),(.int .u32 (.ofNat 0)),(.int .i64 (.ofNat 0))] h) fun t2 h1 =>
    sv (pBuild [(.int .i64 (.ofNat 0)),(.int .i64 (.ofNat 0)),(.int .u32 (.ofNat 0)),(.int .i64 (.ofNat 0))] [(0, 1, (.int .i64 (.ofNat 1))), (1, 1, g0)]) h1 fun t4 h2 =>
    se (pStore 4 t2 t4 h2) fun _ h3 => kR t2 h3
theorem F_index_Table_0 (call : Oracle) (e : Env) (n : Nat) (K : KT (V × Hp)) (G : Nat → V) (h : Hp) : rCode call e n (s_index_Table_0 ) K (mkF 3 0 G) h =
    se (pAlloc e.place [(.int .i64 (.ofNat 0)),(.int .i64 (.ofNat 0)),(.int .u32 (.ofNat 0)),(.int .i64 (.ofNat 0))] h) fun t2 h1 =>
    sv (pBuild [(.int .i64 (.ofNat 0)),(.int .i64 (.ofNat 0)),(.int .u32 (.ofNat 0)),(.int .i64 (.ofNat 0))] [(0, 1, (.int .i64 (.ofNat 1))), (1, 1, (G 0))]) h1 fun t4 h2 =>
    se (pStore 4 t2 t4 h2) fun _ h3 => K .ret (mkF 3 0 (up [(2, t2), (3, (G 0)), (4, t4)] G)) h3 := by kernel_rfl
theorem J_index_Table_0 (call : Oracle) (e : Env) (n : Nat) (K : KT (V × Hp)) (kR : V → Hp → Option (V × Hp)) (hR : ∀ G H, K .ret (mkF 3 0 G) H = kR (G 2) H) (G : Nat → V) (H : Hp) : rCode call e n c_index_Table_0 K (mkF 3 0 G) H = S_index_Table_0 call e n kR (G 0) H := by
  refine (F_index_Table_0 call e n  K G H).trans ?_
  simp only [hR]
  kernel_rfl
noncomputable def rf_index_Table : RFn := ⟨apOf 3 0 1, mkU 3, c_index_Table_0, [.cell true 4 P3_2], 0, false, false⟩
noncomputable def S_index_Table (call : Oracle) (n : Nat) (a0 : V) (H : Hp) : Option (V × Hp) := S_index_Table_0 call ⟨false, placeOf 0 (H.depth + 1), H.depth + 1⟩ n (fun g2 h => ob (aLoad true 4 g2 h) fun r0 => leave false H.depth [r0] h) a0 (aPush H)
theorem E_index_Table (call : Oracle) (n : Nat) (a0 : V) (H : Hp) : rBody rf_index_Table call n [a0] H = S_index_Table call n a0 H :=
  (show rBody rf_index_Table call n [a0] H = rCode call ⟨false, placeOf 0 (H.depth + 1), H.depth + 1⟩ n c_index_Table_0 (rLeave false [.cell true 4 P3_2] H.depth) (mkF 3 0 (up [(0, a0)] (fun _ => .undef))) (aPush H) by kernel_rfl).trans (J_index_Table_0 call _ n _ (fun g2 h => ob (aLoad true 4 g2 h) fun r0 => leave false H.depth [r0] h) (by intro G H; kernel_rfl) _ (aPush H))
end Go.Abs

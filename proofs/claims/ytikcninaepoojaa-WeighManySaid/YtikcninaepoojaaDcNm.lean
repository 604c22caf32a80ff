/- MADE BY gen_dc.py: what each function has to come to, by its text. -/
import Derived.Test.YtikcninaepoojaaCtx
namespace Go.Proofs.Ytikcninaepoojaa.Ev
set_option maxRecDepth 100000
set_option maxHeartbeats 4000000
abbrev n_law14_RevalNames : Nat := 3
abbrev n_law14_RevalParts : Nat := 4
abbrev n_law24_FairRounds : Nat := 5
abbrev n_law24_FairTurns : Nat := 6
abbrev n_law11_WeighMany : Nat := 7
abbrev n_law11_WeighKinds : Nat := 8
abbrev n_law11_WeighLists : Nat := 9
abbrev n_law16_ComputeOf : Nat := 10
abbrev n_law16_ComputeNone : Nat := 11
abbrev n_law16_ComputeEms : Nat := 12
abbrev n_law16_ComputeApart : Nat := 13
abbrev n_law16_ComputeKinds : Nat := 14
abbrev n_law14_alive : Nat := 15
abbrev n_law10_Dear : Nat := 16
abbrev n_law9_Big : Nat := 17
abbrev n_ref9_New : Nat := 18
abbrev n_ref9_Tree_Node : Nat := 19
abbrev n_ref9_SameNode : Nat := 20
abbrev n_reval_Needs : Nat := 21
abbrev n_ref9_Tree_Selector : Nat := 22
abbrev n_law12_Dear : Nat := 23
abbrev n_ref1_SameSelectors : Nat := 24
abbrev n_reval_List : Nat := 25
abbrev n_law24_alive : Nat := 26
abbrev n_fair_Rounds : Nat := 27
abbrev n_ref18_Rounds : Nat := 28
abbrev n_fair_Bound : Nat := 29
abbrev n_ref18_Bound : Nat := 30
abbrev n_ref18_SamePicks : Nat := 31
abbrev n_fair_Turn : Nat := 32
abbrev n_ref18_Turn : Nat := 33
abbrev n_law11_alive : Nat := 34
abbrev n_weigh_Of : Nat := 35
abbrev n_law11_least : Nat := 36
abbrev n_ref9_DeepSel : Nat := 37
abbrev n_law16_alive : Nat := 38
abbrev n_compute_Of : Nat := 39
abbrev n_ref9_Style : Nat := 40
abbrev n_compute_Root : Nat := 41
abbrev n_ref9_RootStyle : Nat := 42
abbrev n_law10_Sels : Nat := 43
abbrev n_law10_dear : Nat := 44
abbrev n_ref9_lowered : Nat := 45
abbrev n_ref9_Tree_is : Nat := 46
abbrev n_ref1_SameStrings : Nat := 47
abbrev n_ref9_Tree_selector : Nat := 48
abbrev n_ref1_SameCompound : Nat := 49
abbrev n_reval_kept_api_Selector : Nat := 50
abbrev n_fair_is : Nat := 51
abbrev n_fair_turns : Nat := 52
abbrev n_weigh_of : Nat := 53
abbrev n_ref9_Deep : Nat := 54
abbrev n_compute_own : Nat := 55
abbrev n_value_Initial : Nat := 56
abbrev n_value_Inherits : Nat := 57
abbrev n_ref9_one : Nat := 58
abbrev n_ref1_Initial : Nat := 59
abbrev n_ref1_Selectors : Nat := 60
abbrev n_ref1_Tokens : Nat := 61
abbrev n_ref1_Prepare : Nat := 62
abbrev n_ref1_Lower : Nat := 63
abbrev n_ref9_Tree_front : Nat := 64
abbrev n_fair_turns_1 : Nat := 65
abbrev n_weigh_sums_compound : Nat := 66
abbrev n_weigh_sums_weight : Nat := 67
abbrev n_compute_size : Nat := 68
abbrev n_compute_space : Nat := 69
abbrev n_compute_kinds : Nat := 70
abbrev n_num_Cap : Nat := 71
abbrev n_ref1_Cap : Nat := 72
abbrev n_ref1_Times : Nat := 73
abbrev n_ref1_Inherits : Nat := 74
abbrev n_ref1_picker_list : Nat := 75
abbrev n_ref1_reader_see : Nat := 76
abbrev n_ref1_reader_number : Nat := 77
abbrev n_ref1_reader_begins : Nat := 78
abbrev n_ref1_white : Nat := 79
abbrev n_ref1_reader_str : Nat := 80
abbrev n_ref1_namePoint : Nat := 81
abbrev n_ref1_reader_escape : Nat := 82
abbrev n_ref1_reader_name : Nat := 83
abbrev n_ref1_reader_numeric : Nat := 84
abbrev n_ref1_sign : Nat := 85
abbrev n_ref1_Points : Nat := 86
abbrev n_ref9_Tree_compound : Nat := 87
abbrev n_ref9_Tree_hangs : Nat := 88
abbrev n_weigh_sums_add : Nat := 89
abbrev n_weigh_capped_int : Nat := 90
abbrev n_compute_part_int : Nat := 91
abbrev n_num_Times : Nat := 92
abbrev n_compute_length : Nat := 93
abbrev n_num_cut_int : Nat := 94
abbrev n_ref1_picker_white : Nat := 95
abbrev n_ref1_picker_selector : Nat := 96
abbrev n_ref1_picker_see : Nat := 97
abbrev n_ref1_picker_over : Nat := 98
abbrev n_ref1_right : Nat := 99
abbrev n_ref1_digit : Nat := 100
abbrev n_ref1_nameStart : Nat := 101
abbrev n_ref1_reader_escaped : Nat := 102
abbrev n_ref1_put : Nat := 103
abbrev n_ref1_Num : Nat := 104
abbrev n_ref1_point : Nat := 105
abbrev n_ref9_has : Nat := 106
abbrev n_ref9_attr : Nat := 107
abbrev n_ref9_Tree_pseudo : Nat := 108
abbrev n_ref9_Tree_Parent : Nat := 109
abbrev n_ref9_Tree_Before : Nat := 110
abbrev n_ref1_picker_compound : Nat := 111
abbrev n_ref1_picker_comb : Nat := 112
abbrev n_ref1_picker_ends : Nat := 113
abbrev n_ref1_hex : Nat := 114
abbrev n_ref9_words : Nat := 115
abbrev n_ref9_begins : Nat := 116
abbrev n_ref9_ends : Nat := 117
abbrev n_ref9_in : Nat := 118
abbrev n_ref9_Tree_Place : Nat := 119
abbrev n_ref9_Tree_last : Nat := 120
abbrev n_ref9_Tree_Children : Nat := 121
abbrev n_ref9_nth : Nat := 122
abbrev n_ref9_Tree_any : Nat := 123
abbrev n_ref1_picker_delim : Nat := 124
abbrev n_ref1_picker_attr : Nat := 125
abbrev n_ref1_picker_pseudo : Nat := 126
abbrev n_ref9_blank : Nat := 127
abbrev n_ref9_far : Nat := 128
abbrev n_ref1_word : Nat := 129
abbrev n_ref1_picker_nth : Nat := 130
abbrev n_ref1_picker_inner : Nat := 131
abbrev n_runtime_boundsError_Error : Nat := 132
abbrev n_runtime_boundsError_RuntimeError : Nat := 133
abbrev n_runtime_errorString_Error : Nat := 134
abbrev n_runtime_errorString_RuntimeError : Nat := 135
abbrev n_runtime_plainError_Error : Nat := 136
abbrev n_runtime_plainError_RuntimeError : Nat := 137
abbrev n_runtime_errorAddressString_Error : Nat := 138
abbrev n_runtime_errorAddressString_RuntimeError : Nat := 139
abbrev n_runtime_TypeAssertionError_Error : Nat := 140
abbrev n_runtime_TypeAssertionError_RuntimeError : Nat := 141
abbrev n_runtime_PanicNilError_Error : Nat := 142
abbrev n_runtime_PanicNilError_RuntimeError : Nat := 143
abbrev n_internal_abi_Type_Align : Nat := 144
abbrev n_internal_runtime_maps_unhashableTypeError_Error : Nat := 145
abbrev n_internal_runtime_maps_unhashableTypeError_RuntimeError : Nat := 146
abbrev n_internal_abi_Kind_String : Nat := 147
abbrev T_func : Nat := 1
abbrev T_int64 : Nat := 2
abbrev T_int : Nat := 3
abbrev T_bool : Nat := 4
abbrev T_uint8 : Nat := 5
abbrev T_internal_abi_BoundsErrorCode : Nat := 6
abbrev T_struct_x_int64_y_int_signed_bool_code_abi_BoundsErrorCode : Nat := 7
abbrev T_runtime_boundsError : Nat := 8
abbrev T_string : Nat := 9
abbrev T_runtime_errorString : Nat := 10
abbrev T_runtime_plainError : Nat := 11
abbrev T_uintptr : Nat := 12
abbrev T_struct_msg_string_addr_uintptr : Nat := 13
abbrev T_runtime_errorAddressString : Nat := 14
abbrev T_p_runtime_TypeAssertionError : Nat := 15
abbrev T_p_runtime_PanicNilError : Nat := 16
abbrev T_p_abi_Type : Nat := 17
abbrev T_struct_typ_p_abi_Type : Nat := 18
abbrev T_internal_runtime_maps_unhashableTypeError : Nat := 19
abbrev T_interface : Nat := 20
abbrev T_int32 : Nat := 21
abbrev T_sl_api_Node : Nat := 22
abbrev T_sl_api_Selector : Nat := 23
abbrev T_func_bool : Nat := 24
abbrev T_func_sl_api_Selector_bool : Nat := 25
abbrev T_func_sl_api_Node_bool : Nat := 26
abbrev T_p_ref9_Tree : Nat := 27
abbrev T_func_sl_api_Node_p_ref9_Tree_int : Nat := 29
abbrev T_sl_string : Nat := 30
abbrev T_sl_api_Pair : Nat := 31
abbrev T_api_Node : Nat := 33
abbrev T_func_int_api_Node : Nat := 34
abbrev T_func_api_Node_api_Node_bool : Nat := 35
abbrev T_func_api_Selector_bool : Nat := 36
abbrev T_sl_api_Part : Nat := 37
abbrev T_struct_Parts_sl_api_Part : Nat := 38
abbrev T_api_Selector : Nat := 39
abbrev T_func_int_api_Selector_bool : Nat := 40
abbrev T_func_sl_api_Node_sl_api_Selector_bool : Nat := 41
abbrev T_sl_api_Rule : Nat := 42
abbrev T_func_sl_api_Rule_bool : Nat := 43
abbrev T_func_sl_api_Selector_sl_api_Selector_bool : Nat := 44
abbrev T_func_sl_api_Rule_sl_api_Selector : Nat := 45
abbrev T_func_sl_api_Rule_sl_api_Rule_bool : Nat := 46
abbrev T_sl_api_Pick : Nat := 47
abbrev T_func_int_sl_api_Pick_int : Nat := 48
abbrev T_func_int_int : Nat := 49
abbrev T_func_sl_api_Pick_sl_api_Pick_bool : Nat := 50
abbrev T_func_int_int_sl_api_Pick : Nat := 51
abbrev T_func_int_sl_api_Pick_int_bool : Nat := 52
abbrev T_func_int_int_bool : Nat := 53
abbrev T_sl_api_Attr : Nat := 54
abbrev T_sl_api_Pseudo : Nat := 55
abbrev T_api_Compound : Nat := 57
abbrev T_struct_Comb_int_Compound_api_Compound : Nat := 58
abbrev T_api_Part : Nat := 59
abbrev T_func_api_Selector_int : Nat := 60
abbrev T_uint : Nat := 61
abbrev T_func_int_int_int_bool : Nat := 62
abbrev T_struct_Name_string_Op_int_Text_string : Nat := 63
abbrev T_api_Attr : Nat := 64
abbrev T_struct_Kind_int_A_int_B_int_List_sl_api_Selector : Nat := 65
abbrev T_api_Pseudo : Nat := 66
abbrev T_sl_api_Compound : Nat := 67
abbrev T_sl_int : Nat := 68
abbrev T_func_int_string_bool : Nat := 69
abbrev T_func_api_Selector_int_bool : Nat := 70
abbrev T_func_api_Selector_api_Selector_bool_bool : Nat := 71
abbrev T_arr_8_int : Nat := 72
abbrev T_api_Style : Nat := 73
abbrev T_struct_Kind_int_N_int : Nat := 74
abbrev T_api_Value : Nat := 75
abbrev T_arr_8_api_Value : Nat := 76
abbrev T_p_api_Style : Nat := 77
abbrev T_func_p_api_Style_arr_8_api_Value_api_Style : Nat := 78
abbrev T_func_api_Style : Nat := 79
abbrev T_func_api_Style_bool_arr_8_api_Value_bool : Nat := 80
abbrev T_func_api_Style_int_bool : Nat := 81
abbrev T_func_api_Style_arr_8_api_Value_arr_8_api_Value_int_bool : Nat := 82
abbrev T_sl_sl_int : Nat := 83
abbrev T_func_api_Style_int_api_Value_bool : Nat := 84
abbrev T_func_string_sl_api_Selector : Nat := 85
abbrev T_func_sl_api_Selector_int_int : Nat := 86
abbrev T_struct_Name_string_Text_string : Nat := 87
abbrev T_api_Pair : Nat := 88
abbrev T_struct_N_sl_api_Node_depth_sl_int : Nat := 89
abbrev T_ref9_Tree : Nat := 90
abbrev T_func_api_Node_api_Node : Nat := 91
abbrev T_func_int_bool : Nat := 92
abbrev T_func_sl_string_sl_string_bool : Nat := 93
abbrev T_func_int_api_Selector_int_bool : Nat := 94
abbrev T_sl_api_Set : Nat := 95
abbrev T_struct_Sels_sl_api_Selector_Sets_sl_api_Set : Nat := 96
abbrev T_api_Rule : Nat := 97
abbrev T_func_api_Compound_api_Compound_bool : Nat := 98
abbrev T_struct_Who_int_Victim_int : Nat := 100
abbrev T_api_Pick : Nat := 101
abbrev T_arr_64_bool : Nat := 102
abbrev T_func_func_api_Pick_bool : Nat := 103
abbrev T_func_int_func_func_api_Pick_bool : Nat := 104
abbrev T_func_api_Selector_int_int : Nat := 105
abbrev T_func_api_Compound_int_bool : Nat := 106
abbrev T_func_int_api_Value_p_api_Style_p_api_Style_int_bool : Nat := 108
abbrev T_func_int_api_Value_api_Style_int_int : Nat := 109
abbrev T_func_sl_api_Token_sl_api_Selector_bool : Nat := 111
abbrev T_sl_api_Token : Nat := 112
abbrev T_func_sl_int_sl_api_Token : Nat := 113
abbrev T_func_sl_uint8_sl_int : Nat := 114
abbrev T_sl_uint8 : Nat := 115
abbrev T_func_string_string : Nat := 116
abbrev T_func_int_api_Selector_int_int_sl_int_bool : Nat := 117
abbrev T_func_api_Pick_bool : Nat := 118
abbrev T_arr_3_int : Nat := 119
abbrev T_weigh_sums : Nat := 120
abbrev T_func_api_Compound_int : Nat := 121
abbrev T_func_int : Nat := 122
abbrev T_func_api_Value_int_int_bool : Nat := 123
abbrev T_func_int_api_Value_int_int_bool : Nat := 124
abbrev T_func_int_int_int : Nat := 125
abbrev T_p_ref1_picker : Nat := 126
abbrev T_struct_t_sl_api_Token_at_int_bad_bool_deep_int : Nat := 127
abbrev T_ref1_picker : Nat := 128
abbrev T_func_sl_api_Selector : Nat := 129
abbrev T_p_ref1_reader : Nat := 130
abbrev T_struct_l_sl_int_at_int : Nat := 131
abbrev T_ref1_reader : Nat := 132
abbrev T_struct_Kind_int_Text_string_N_int_Whole_bool_C_int : Nat := 133
abbrev T_api_Token : Nat := 134
abbrev T_func_api_Token : Nat := 135
abbrev T_func_string : Nat := 136
abbrev T_func_int_api_Compound_int_bool : Nat := 137
abbrev T_p_weigh_sums : Nat := 138
abbrev T_func_int_int_int_int : Nat := 140
abbrev T_func_api_Selector : Nat := 141
abbrev T_func_int_api_Token : Nat := 142
abbrev T_func_sl_uint8_int_sl_uint8 : Nat := 143
abbrev T_func_string_int_bool : Nat := 144
abbrev T_func_sl_uint8_int_int : Nat := 146
abbrev T_func_sl_string_string_bool : Nat := 147
abbrev T_func_api_Node_api_Attr_bool : Nat := 148
abbrev T_func_int_api_Pseudo_int_bool : Nat := 149
abbrev T_func_api_Compound : Nat := 150
abbrev T_func_string_sl_string : Nat := 151
abbrev T_func_string_string_bool : Nat := 152
abbrev T_func_int_sl_int : Nat := 153
abbrev T_func_int_sl_api_Selector_int_bool : Nat := 154
abbrev T_func_api_Attr : Nat := 155
abbrev T_func_api_Pseudo : Nat := 156
abbrev T_func_uint8_bool : Nat := 157
abbrev T_func_string_sl_string_int_bool : Nat := 158
abbrev T_uint64 : Nat := 159
abbrev T_runtime_TypeAssertionError : Nat := 161
abbrev T_arr_0_p_runtime_PanicNilError : Nat := 162
abbrev T_struct_arr_0_p_runtime_PanicNilError : Nat := 163
abbrev T_runtime_PanicNilError : Nat := 164
abbrev T_uint32 : Nat := 165
abbrev T_internal_abi_TFlag : Nat := 166
abbrev T_internal_abi_Kind : Nat := 167
abbrev T_func_unsafe_Pointer_unsafe_Pointer_bool : Nat := 168
abbrev T_p_uint8 : Nat := 169
abbrev T_internal_abi_NameOff : Nat := 170
abbrev T_internal_abi_TypeOff : Nat := 171
abbrev T_internal_abi_Type : Nat := 173
abbrev T_struct_Prop_int_Value_api_Value_Important_bool : Nat := 174
abbrev T_api_Set : Nat := 175
abbrev T_unsafe_Pointer : Nat := 176
theorem T_int_is : ∃ i, tiT.get T_int = some i ∧ i.d = .int .i64 ∧ i.size = 1 := ⟨_, (by kernel_rfl : tiT.get T_int = some ti3), by kernel_rfl, by kernel_rfl⟩
theorem T_bool_is : ∃ i, tiT.get T_bool = some i ∧ i.d = .bool ∧ i.size = 1 := ⟨_, (by kernel_rfl : tiT.get T_bool = some ti4), by kernel_rfl, by kernel_rfl⟩
theorem T_uint8_is : ∃ i, tiT.get T_uint8 = some i ∧ i.d = .int .u8 ∧ i.size = 1 := ⟨_, (by kernel_rfl : tiT.get T_uint8 = some ti5), by kernel_rfl, by kernel_rfl⟩
theorem T_string_is : ∃ i, tiT.get T_string = some i ∧ i.d = .string ∧ i.size = 1 := ⟨_, (by kernel_rfl : tiT.get T_string = some ti9), by kernel_rfl, by kernel_rfl⟩
theorem T_sl_api_Node_is : ∃ i, tiT.get T_sl_api_Node = some i ∧ i.d = .slice T_api_Node ∧ i.size = 1 := ⟨_, (by kernel_rfl : tiT.get T_sl_api_Node = some ti22), by kernel_rfl, by kernel_rfl⟩
theorem T_sl_api_Selector_is : ∃ i, tiT.get T_sl_api_Selector = some i ∧ i.d = .slice T_api_Selector ∧ i.size = 1 := ⟨_, (by kernel_rfl : tiT.get T_sl_api_Selector = some ti23), by kernel_rfl, by kernel_rfl⟩
theorem T_sl_string_is : ∃ i, tiT.get T_sl_string = some i ∧ i.d = .slice T_string ∧ i.size = 1 := ⟨_, (by kernel_rfl : tiT.get T_sl_string = some ti30), by kernel_rfl, by kernel_rfl⟩
theorem T_sl_api_Pair_is : ∃ i, tiT.get T_sl_api_Pair = some i ∧ i.d = .slice T_api_Pair ∧ i.size = 1 := ⟨_, (by kernel_rfl : tiT.get T_sl_api_Pair = some ti31), by kernel_rfl, by kernel_rfl⟩
theorem T_api_Node_is : ∃ i, tiT.get T_api_Node = some i ∧ i.d = .struct [(0, T_int), (1, T_string), (2, T_string), (3, T_sl_string), (4, T_sl_api_Pair)] ∧ i.size = 5 := ⟨_, (by kernel_rfl : tiT.get T_api_Node = some ti33), by kernel_rfl, by kernel_rfl⟩
theorem T_sl_api_Part_is : ∃ i, tiT.get T_sl_api_Part = some i ∧ i.d = .slice T_api_Part ∧ i.size = 1 := ⟨_, (by kernel_rfl : tiT.get T_sl_api_Part = some ti37), by kernel_rfl, by kernel_rfl⟩
theorem T_api_Selector_is : ∃ i, tiT.get T_api_Selector = some i ∧ i.d = .struct [(0, T_sl_api_Part)] ∧ i.size = 1 := ⟨_, (by kernel_rfl : tiT.get T_api_Selector = some ti39), by kernel_rfl, by kernel_rfl⟩
theorem T_sl_api_Rule_is : ∃ i, tiT.get T_sl_api_Rule = some i ∧ i.d = .slice T_api_Rule ∧ i.size = 1 := ⟨_, (by kernel_rfl : tiT.get T_sl_api_Rule = some ti42), by kernel_rfl, by kernel_rfl⟩
theorem T_sl_api_Pick_is : ∃ i, tiT.get T_sl_api_Pick = some i ∧ i.d = .slice T_api_Pick ∧ i.size = 1 := ⟨_, (by kernel_rfl : tiT.get T_sl_api_Pick = some ti47), by kernel_rfl, by kernel_rfl⟩
theorem T_sl_api_Attr_is : ∃ i, tiT.get T_sl_api_Attr = some i ∧ i.d = .slice T_api_Attr ∧ i.size = 1 := ⟨_, (by kernel_rfl : tiT.get T_sl_api_Attr = some ti54), by kernel_rfl, by kernel_rfl⟩
theorem T_sl_api_Pseudo_is : ∃ i, tiT.get T_sl_api_Pseudo = some i ∧ i.d = .slice T_api_Pseudo ∧ i.size = 1 := ⟨_, (by kernel_rfl : tiT.get T_sl_api_Pseudo = some ti55), by kernel_rfl, by kernel_rfl⟩
theorem T_api_Compound_is : ∃ i, tiT.get T_api_Compound = some i ∧ i.d = .struct [(0, T_string), (1, T_sl_string), (2, T_sl_string), (3, T_sl_api_Attr), (4, T_sl_api_Pseudo)] ∧ i.size = 5 := ⟨_, (by kernel_rfl : tiT.get T_api_Compound = some ti57), by kernel_rfl, by kernel_rfl⟩
theorem T_api_Part_is : ∃ i, tiT.get T_api_Part = some i ∧ i.d = .struct [(0, T_int), (1, T_api_Compound)] ∧ i.size = 6 := ⟨_, (by kernel_rfl : tiT.get T_api_Part = some ti59), by kernel_rfl, by kernel_rfl⟩
theorem T_api_Attr_is : ∃ i, tiT.get T_api_Attr = some i ∧ i.d = .struct [(0, T_string), (1, T_int), (2, T_string)] ∧ i.size = 3 := ⟨_, (by kernel_rfl : tiT.get T_api_Attr = some ti64), by kernel_rfl, by kernel_rfl⟩
theorem T_api_Pseudo_is : ∃ i, tiT.get T_api_Pseudo = some i ∧ i.d = .struct [(0, T_int), (1, T_int), (2, T_int), (3, T_sl_api_Selector)] ∧ i.size = 4 := ⟨_, (by kernel_rfl : tiT.get T_api_Pseudo = some ti66), by kernel_rfl, by kernel_rfl⟩
theorem T_sl_api_Compound_is : ∃ i, tiT.get T_sl_api_Compound = some i ∧ i.d = .slice T_api_Compound ∧ i.size = 1 := ⟨_, (by kernel_rfl : tiT.get T_sl_api_Compound = some ti67), by kernel_rfl, by kernel_rfl⟩
theorem T_sl_int_is : ∃ i, tiT.get T_sl_int = some i ∧ i.d = .slice T_int ∧ i.size = 1 := ⟨_, (by kernel_rfl : tiT.get T_sl_int = some ti68), by kernel_rfl, by kernel_rfl⟩
theorem T_api_Style_is : ∃ i, tiT.get T_api_Style = some i ∧ i.d = .array 8 T_int ∧ i.size = 8 := ⟨_, (by kernel_rfl : tiT.get T_api_Style = some ti73), by kernel_rfl, by kernel_rfl⟩
theorem T_api_Value_is : ∃ i, tiT.get T_api_Value = some i ∧ i.d = .struct [(0, T_int), (1, T_int)] ∧ i.size = 2 := ⟨_, (by kernel_rfl : tiT.get T_api_Value = some ti75), by kernel_rfl, by kernel_rfl⟩
theorem T_arr_8_api_Value_is : ∃ i, tiT.get T_arr_8_api_Value = some i ∧ i.d = .array 8 T_api_Value ∧ i.size = 16 := ⟨_, (by kernel_rfl : tiT.get T_arr_8_api_Value = some ti76), by kernel_rfl, by kernel_rfl⟩
theorem T_p_api_Style_is : ∃ i, tiT.get T_p_api_Style = some i ∧ i.d = .ptr T_api_Style ∧ i.size = 1 := ⟨_, (by kernel_rfl : tiT.get T_p_api_Style = some ti77), by kernel_rfl, by kernel_rfl⟩
theorem T_api_Pair_is : ∃ i, tiT.get T_api_Pair = some i ∧ i.d = .struct [(0, T_string), (1, T_string)] ∧ i.size = 2 := ⟨_, (by kernel_rfl : tiT.get T_api_Pair = some ti88), by kernel_rfl, by kernel_rfl⟩
theorem T_sl_api_Set_is : ∃ i, tiT.get T_sl_api_Set = some i ∧ i.d = .slice T_api_Set ∧ i.size = 1 := ⟨_, (by kernel_rfl : tiT.get T_sl_api_Set = some ti95), by kernel_rfl, by kernel_rfl⟩
theorem T_api_Rule_is : ∃ i, tiT.get T_api_Rule = some i ∧ i.d = .struct [(0, T_sl_api_Selector), (1, T_sl_api_Set)] ∧ i.size = 2 := ⟨_, (by kernel_rfl : tiT.get T_api_Rule = some ti97), by kernel_rfl, by kernel_rfl⟩
theorem T_api_Pick_is : ∃ i, tiT.get T_api_Pick = some i ∧ i.d = .struct [(0, T_int), (1, T_int)] ∧ i.size = 2 := ⟨_, (by kernel_rfl : tiT.get T_api_Pick = some ti101), by kernel_rfl, by kernel_rfl⟩
theorem T_sl_api_Token_is : ∃ i, tiT.get T_sl_api_Token = some i ∧ i.d = .slice T_api_Token ∧ i.size = 1 := ⟨_, (by kernel_rfl : tiT.get T_sl_api_Token = some ti112), by kernel_rfl, by kernel_rfl⟩
theorem T_sl_uint8_is : ∃ i, tiT.get T_sl_uint8 = some i ∧ i.d = .slice T_uint8 ∧ i.size = 1 := ⟨_, (by kernel_rfl : tiT.get T_sl_uint8 = some ti115), by kernel_rfl, by kernel_rfl⟩
theorem T_api_Token_is : ∃ i, tiT.get T_api_Token = some i ∧ i.d = .struct [(0, T_int), (1, T_string), (2, T_int), (3, T_bool), (4, T_int)] ∧ i.size = 5 := ⟨_, (by kernel_rfl : tiT.get T_api_Token = some ti134), by kernel_rfl, by kernel_rfl⟩
theorem T_api_Set_is : ∃ i, tiT.get T_api_Set = some i ∧ i.d = .struct [(0, T_int), (1, T_api_Value), (3, T_bool)] ∧ i.size = 4 := ⟨_, (by kernel_rfl : tiT.get T_api_Set = some ti175), by kernel_rfl, by kernel_rfl⟩
end Go.Proofs.Ytikcninaepoojaa.Ev

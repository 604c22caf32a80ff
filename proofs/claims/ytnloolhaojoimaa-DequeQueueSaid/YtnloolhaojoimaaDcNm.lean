/- MADE BY gen_dc.py: what each function has to come to, by its text. -/
import Derived.Test.YtnloolhaojoimaaCtx
namespace Go.Proofs.Ytnloolhaojoimaa.Ev
set_option maxRecDepth 100000
set_option maxHeartbeats 4000000
abbrev n_law20_DequeOnce : Nat := 3
abbrev n_law20_DequeAlone : Nat := 4
abbrev n_law20_DequeQueue : Nat := 5
abbrev n_law20_DequeRace : Nat := 6
abbrev n_law20_DequeNone : Nat := 7
abbrev n_law20_DequeFull : Nat := 8
abbrev n_law20_DequeThieves : Nat := 9
abbrev n_law20_DequePlays : Nat := 10
abbrev n_law20_alive : Nat := 11
abbrev n_deque_New : Nat := 12
abbrev n_deque_Deque_Busy : Nat := 13
abbrev n_deque_Deque_Step : Nat := 14
abbrev n_law20_tally_note : Nat := 15
abbrev n_deque_Deque_Begin : Nat := 16
abbrev n_law20_num : Nat := 17
abbrev n_deque_Deque_Len : Nat := 18
abbrev n_law20_whole : Nat := 19
abbrev n_ref18_NewDeque : Nat := 20
abbrev n_ref18_Deque_Begin : Nat := 21
abbrev n_ref18_Deque_Step : Nat := 22
abbrev n_ref18_Deque_Busy : Nat := 23
abbrev n_ref18_Deque_Len : Nat := 24
abbrev n_deque_Deque_Last : Nat := 25
abbrev n_ref18_Deque_Last : Nat := 26
abbrev n_deque_steps : Nat := 27
abbrev n_ref18_Deque_push : Nat := 28
abbrev n_ref18_Deque_pop : Nat := 29
abbrev n_ref18_Deque_steal : Nat := 30
abbrev n_deque_push1 : Nat := 31
abbrev n_deque_pop1 : Nat := 32
abbrev n_deque_steal1 : Nat := 33
abbrev n_ref18_Deque_see : Nat := 34
abbrev n_ref18_Deque_end : Nat := 35
abbrev n_ref18_Deque_mod : Nat := 36
abbrev n_deque_operation_readBottom : Nat := 37
abbrev n_deque_push2 : Nat := 38
abbrev n_deque_pop2 : Nat := 39
abbrev n_deque_operation_readTop : Nat := 40
abbrev n_deque_steal2 : Nat := 41
abbrev n_deque_operation_access : Nat := 42
abbrev n_deque_push3 : Nat := 43
abbrev n_deque_operation_writeBottom : Nat := 44
abbrev n_deque_pop3 : Nat := 45
abbrev n_deque_steal3 : Nat := 46
abbrev n_deque_operation_at : Nat := 47
abbrev n_deque_push4 : Nat := 48
abbrev n_deque_pop6 : Nat := 49
abbrev n_deque_pop4 : Nat := 50
abbrev n_deque_operation_read : Nat := 51
abbrev n_deque_steal4 : Nat := 52
abbrev n_deque_pop5 : Nat := 53
abbrev n_deque_operation_takeTop : Nat := 54
abbrev n_runtime_boundsError_Error : Nat := 55
abbrev T_func : Nat := 1
abbrev T_int64 : Nat := 2
abbrev T_int : Nat := 3
abbrev T_bool : Nat := 4
abbrev T_uint8 : Nat := 5
abbrev T_internal_abi_BoundsErrorCode : Nat := 6
abbrev T_struct_x_int64_y_int_signed_bool_code_abi_BoundsErrorCode : Nat := 7
abbrev T_runtime_boundsError : Nat := 8
abbrev T_string : Nat := 9
abbrev T_runtime_errorString : Nat := 10
abbrev T_runtime_plainError : Nat := 11
abbrev T_uintptr : Nat := 12
abbrev T_struct_msg_string_addr_uintptr : Nat := 13
abbrev T_runtime_errorAddressString : Nat := 14
abbrev T_p_runtime_TypeAssertionError : Nat := 15
abbrev T_p_runtime_PanicNilError : Nat := 16
abbrev T_p_abi_Type : Nat := 17
abbrev T_struct_typ_p_abi_Type : Nat := 18
abbrev T_internal_runtime_maps_unhashableTypeError : Nat := 19
abbrev T_interface : Nat := 20
abbrev T_int32 : Nat := 21
abbrev T_sl_int : Nat := 22
abbrev T_func_bool : Nat := 23
abbrev T_p_deque_Deque : Nat := 24
abbrev T_func_int_p_deque_Deque : Nat := 25
abbrev T_p_law20_tally : Nat := 26
abbrev T_arr_64_int : Nat := 27
abbrev T_struct_pushed_arr_64_int_taken_arr_64_int_push_int : Nat := 28
abbrev T_law20_tally : Nat := 29
abbrev T_func_int_bool : Nat := 30
abbrev T_func_int_bool_int_bool : Nat := 32
abbrev T_func_int_bool_int_bool_bool : Nat := 33
abbrev T_uint : Nat := 34
abbrev T_api_Errno : Nat := 35
abbrev T_func_int_int_int_api_Errno : Nat := 36
abbrev T_func_api_Errno_int : Nat := 37
abbrev T_func_int : Nat := 38
abbrev T_func_int_int_sl_int_bool : Nat := 39
abbrev T_sl_bool : Nat := 40
abbrev T_func_p_deque_Deque_int_int_int_int_bool : Nat := 42
abbrev T_func_int_sl_bool_bool : Nat := 43
abbrev T_func_int_sl_bool_sl_int_bool : Nat := 44
abbrev T_func_sl_bool_int_bool : Nat := 45
abbrev T_func_int_int_int_bool : Nat := 46
abbrev T_func_int_int_bool : Nat := 47
abbrev T_func_int_sl_int_int_bool : Nat := 48
abbrev T_sl_law20_Act : Nat := 49
abbrev T_p_ref18_Deque : Nat := 50
abbrev T_func_int_p_ref18_Deque : Nat := 51
abbrev T_struct_Who_int_Kind_int_X_int : Nat := 52
abbrev T_law20_Act : Nat := 53
abbrev T_func_int_int_int_int : Nat := 54
abbrev T_struct_Who_int_Cell_int_Write_bool_Atomic_bool : Nat := 55
abbrev T_api_Access : Nat := 56
abbrev T_func_api_Access : Nat := 57
abbrev T_func_int_sl_law20_Act_bool : Nat := 58
abbrev T_p_deque_operation : Nat := 59
abbrev T_arr_65_p_deque_operation : Nat := 60
abbrev T_deque_Deque : Nat := 62
abbrev T_func_p_deque_operation_deque_step : Nat := 63
abbrev T_deque_step : Nat := 64
abbrev T_deque_operation : Nat := 66
abbrev T_func_int_int_deque_step : Nat := 67
abbrev T_struct_kind_int_at_int_t_int_b_int_x_int_won_bool : Nat := 68
abbrev T_ref18_op : Nat := 69
abbrev T_arr_65_ref18_op : Nat := 70
abbrev T_ref18_Deque : Nat := 72
abbrev T_p_ref18_op : Nat := 73
abbrev T_func_int_int_p_ref18_op_bool_int_bool : Nat := 74
abbrev T_func_int_bool_bool_int_bool : Nat := 76
abbrev T_func_int_int : Nat := 77
abbrev T_func_string : Nat := 80
abbrev T_runtime_TypeAssertionError : Nat := 82
abbrev T_arr_0_p_runtime_PanicNilError : Nat := 83
abbrev T_struct_arr_0_p_runtime_PanicNilError : Nat := 84
abbrev T_runtime_PanicNilError : Nat := 85
abbrev T_uint32 : Nat := 86
abbrev T_internal_abi_TFlag : Nat := 87
abbrev T_internal_abi_Kind : Nat := 88
abbrev T_func_unsafe_Pointer_unsafe_Pointer_bool : Nat := 89
abbrev T_p_uint8 : Nat := 90
abbrev T_internal_abi_NameOff : Nat := 91
abbrev T_internal_abi_TypeOff : Nat := 92
abbrev T_internal_abi_Type : Nat := 94
abbrev T_unsafe_Pointer : Nat := 95
theorem T_int_is : ∃ i, tiT.get T_int = some i ∧ i.d = .int .i64 ∧ i.size = 1 := ⟨_, (by kernel_rfl : tiT.get T_int = some ti3), by kernel_rfl, by kernel_rfl⟩
theorem T_bool_is : ∃ i, tiT.get T_bool = some i ∧ i.d = .bool ∧ i.size = 1 := ⟨_, (by kernel_rfl : tiT.get T_bool = some ti4), by kernel_rfl, by kernel_rfl⟩
theorem T_uint8_is : ∃ i, tiT.get T_uint8 = some i ∧ i.d = .int .u8 ∧ i.size = 1 := ⟨_, (by kernel_rfl : tiT.get T_uint8 = some ti5), by kernel_rfl, by kernel_rfl⟩
theorem T_string_is : ∃ i, tiT.get T_string = some i ∧ i.d = .string ∧ i.size = 1 := ⟨_, (by kernel_rfl : tiT.get T_string = some ti9), by kernel_rfl, by kernel_rfl⟩
theorem T_sl_int_is : ∃ i, tiT.get T_sl_int = some i ∧ i.d = .slice T_int ∧ i.size = 1 := ⟨_, (by kernel_rfl : tiT.get T_sl_int = some ti22), by kernel_rfl, by kernel_rfl⟩
theorem T_api_Errno_is : ∃ i, tiT.get T_api_Errno = some i ∧ i.d = .int .i64 ∧ i.size = 1 := ⟨_, (by kernel_rfl : tiT.get T_api_Errno = some ti35), by kernel_rfl, by kernel_rfl⟩
theorem T_sl_bool_is : ∃ i, tiT.get T_sl_bool = some i ∧ i.d = .slice T_bool ∧ i.size = 1 := ⟨_, (by kernel_rfl : tiT.get T_sl_bool = some ti40), by kernel_rfl, by kernel_rfl⟩
theorem T_sl_law20_Act_is : ∃ i, tiT.get T_sl_law20_Act = some i ∧ i.d = .slice T_law20_Act ∧ i.size = 1 := ⟨_, (by kernel_rfl : tiT.get T_sl_law20_Act = some ti49), by kernel_rfl, by kernel_rfl⟩
theorem T_law20_Act_is : ∃ i, tiT.get T_law20_Act = some i ∧ i.d = .struct [(0, T_int), (1, T_int), (2, T_int)] ∧ i.size = 3 := ⟨_, (by kernel_rfl : tiT.get T_law20_Act = some ti53), by kernel_rfl, by kernel_rfl⟩
theorem T_api_Access_is : ∃ i, tiT.get T_api_Access = some i ∧ i.d = .struct [(0, T_int), (1, T_int), (2, T_bool), (3, T_bool)] ∧ i.size = 4 := ⟨_, (by kernel_rfl : tiT.get T_api_Access = some ti56), by kernel_rfl, by kernel_rfl⟩
end Go.Proofs.Ytnloolhaojoimaa.Ev

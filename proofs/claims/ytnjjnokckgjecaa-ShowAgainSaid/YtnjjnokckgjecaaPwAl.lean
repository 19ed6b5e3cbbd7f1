/- Law 26: ParseWords, its functions together; alive. -/
import Derived.Test.YtnjjnokckgjecaaPw
import Derived.Test.YtnjjnokckgjecaaLexLaw
set_option linter.unusedVariables false
set_option linter.unusedSimpArgs false
set_option maxRecDepth 10000
set_option maxHeartbeats 1000000
namespace Go.Am
abbrev parseTab : Tab := (114, law26_alive_f, 0) :: (366, parse_Names_P_f, 1) :: (117, parse_Names_f, 1) :: (118, slices_Equal_Sstring_string_f, 2) :: (119, parse_Template_f, 1) :: (120, ref26_Word_f, 2) :: (121, parse_Dispatcher_f, 1) :: (122, parse_Lines_f, 0) :: (365, lexer_Scan_P_f, 1) :: (116, parse_Text_f, 1) :: (170, parse_tokens_next_f, 1) :: (169, parse_reader_fail_f, 3) :: (176, parse_reader_word_f, 1) :: (177, parse_reader_number_f, 2) :: (171, parse_reader_numbers_f, 2) :: (172, parse_reader_kind_f, 2) :: (168, parse_reader_set_f, 4) :: (239, parse_reader_line_f, 2) :: (20, vet_In_f, 2) :: (24, vet_Bounds_f, 1) :: lexTab
abbrev wordsTab : Tab := (0, law26_ParseWords_f, 1) :: parseTab
theorem words_alive : env wordsTab lexVals noEnv 70000 19 114 [] = some [bo true] := yes_eq (by decide +kernel)
end Go.Am

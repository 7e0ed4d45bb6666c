/- Codes of the program's functions, as a program printed them, and that they are what the program's functions are compiled to.
   No condition: plain facts. -/
import Derived.Test.YtdohgmnflhjgjaaPm5
import Derived.Test.YtdohgmnflhjgjaaProg
import Derived.KernelRfl
namespace Pm
set_option linter.unusedSimpArgs false
set_option linter.unusedVariables false
open Go Am
set_option maxRecDepth 100000
@[irreducible] def z196 : List Value := [(.string ⟨#[]⟩), (.int .u8 0), (.int .u8 0), (.int .u8 0), (.bool false), (.bool false), (.bool false), (.string ⟨#[]⟩), (.int .u8 0), (.int .u8 0), (.int .u8 0), (.bool false), (.bool false), (.bool false), (.string ⟨#[]⟩), (.int .u8 0), (.int .u8 0), (.int .u8 0), (.bool false), (.bool false), (.bool false), (.string ⟨#[]⟩), (.int .u8 0), (.int .u8 0), (.int .u8 0), (.bool false), (.bool false), (.bool false), (.string ⟨#[]⟩), (.int .u8 0), (.int .u8 0), (.int .u8 0), (.bool false), (.bool false), (.bool false), (.string ⟨#[]⟩), (.int .u8 0), (.int .u8 0), (.int .u8 0), (.bool false), (.bool false), (.bool false), (.string ⟨#[]⟩), (.int .u8 0), (.int .u8 0), (.int .u8 0), (.bool false), (.bool false), (.bool false), (.string ⟨#[]⟩), (.int .u8 0), (.int .u8 0), (.int .u8 0), (.bool false), (.bool false), (.bool false), (.string ⟨#[]⟩), (.int .u8 0), (.int .u8 0), (.int .u8 0), (.bool false), (.bool false), (.bool false), (.string ⟨#[]⟩), (.int .u8 0), (.int .u8 0), (.int .u8 0), (.bool false), (.bool false), (.bool false), (.string ⟨#[]⟩), (.int .u8 0), (.int .u8 0), (.int .u8 0), (.bool false), (.bool false), (.bool false), (.string ⟨#[]⟩), (.int .u8 0), (.int .u8 0), (.int .u8 0), (.bool false), (.bool false), (.bool false), (.string ⟨#[]⟩), (.int .u8 0), (.int .u8 0), (.int .u8 0), (.bool false), (.bool false), (.bool false), (.string ⟨#[]⟩), (.int .u8 0), (.int .u8 0), (.int .u8 0), (.bool false), (.bool false), (.bool false), (.string ⟨#[]⟩), (.int .u8 0), (.int .u8 0), (.int .u8 0), (.bool false), (.bool false), (.bool false), (.string ⟨#[]⟩), (.int .u8 0), (.int .u8 0), (.int .u8 0), (.bool false), (.bool false), (.bool false), (.string ⟨#[]⟩), (.int .u8 0), (.int .u8 0), (.int .u8 0), (.bool false), (.bool false), (.bool false), (.string ⟨#[]⟩), (.int .u8 0), (.int .u8 0), (.int .u8 0), (.bool false), (.bool false), (.bool false), (.string ⟨#[]⟩), (.int .u8 0), (.int .u8 0), (.int .u8 0), (.bool false), (.bool false), (.bool false), (.string ⟨#[]⟩), (.int .u8 0), (.int .u8 0), (.int .u8 0), (.bool false), (.bool false), (.bool false), (.string ⟨#[]⟩), (.int .u8 0), (.int .u8 0), (.int .u8 0), (.bool false), (.bool false), (.bool false), (.string ⟨#[]⟩), (.int .u8 0), (.int .u8 0), (.int .u8 0), (.bool false), (.bool false), (.bool false), (.string ⟨#[]⟩), (.int .u8 0), (.int .u8 0), (.int .u8 0), (.bool false), (.bool false), (.bool false), (.string ⟨#[]⟩), (.int .u8 0), (.int .u8 0), (.int .u8 0), (.bool false), (.bool false), (.bool false), (.string ⟨#[]⟩), (.int .u8 0), (.int .u8 0), (.int .u8 0), (.bool false), (.bool false), (.bool false), (.string ⟨#[]⟩), (.int .u8 0), (.int .u8 0), (.int .u8 0), (.bool false), (.bool false), (.bool false), (.string ⟨#[]⟩), (.int .u8 0), (.int .u8 0), (.int .u8 0), (.bool false), (.bool false), (.bool false), (.string ⟨#[]⟩), (.int .u8 0), (.int .u8 0), (.int .u8 0), (.bool false), (.bool false), (.bool false)]
def c_shapes : AFn :=
⟨(O [⟨some 0, none, .e (.new [(.string ⟨#[]⟩), (.int .u8 0), (.int .u8 0), (.int .u8 0), (.bool false), (.bool false), (.bool false), (.string ⟨#[]⟩), (.int .u8 0), (.int .u8 0), (.int .u8 0), (.bool false), (.bool false), (.bool false), (.string ⟨#[]⟩), (.int .u8 0), (.int .u8 0), (.int .u8 0), (.bool false), (.bool false), (.bool false), (.string ⟨#[]⟩), (.int .u8 0), (.int .u8 0), (.int .u8 0), (.bool false), (.bool false), (.bool false), (.string ⟨#[]⟩), (.int .u8 0), (.int .u8 0), (.int .u8 0), (.bool false), (.bool false), (.bool false), (.string ⟨#[]⟩), (.int .u8 0), (.int .u8 0), (.int .u8 0), (.bool false), (.bool false), (.bool false), (.string ⟨#[]⟩), (.int .u8 0), (.int .u8 0), (.int .u8 0), (.bool false), (.bool false), (.bool false), (.string ⟨#[]⟩), (.int .u8 0), (.int .u8 0), (.int .u8 0), (.bool false), (.bool false), (.bool false), (.string ⟨#[]⟩), (.int .u8 0), (.int .u8 0), (.int .u8 0), (.bool false), (.bool false), (.bool false), (.string ⟨#[]⟩), (.int .u8 0), (.int .u8 0), (.int .u8 0), (.bool false), (.bool false), (.bool false), (.string ⟨#[]⟩), (.int .u8 0), (.int .u8 0), (.int .u8 0), (.bool false), (.bool false), (.bool false), (.string ⟨#[]⟩), (.int .u8 0), (.int .u8 0), (.int .u8 0), (.bool false), (.bool false), (.bool false), (.string ⟨#[]⟩), (.int .u8 0), (.int .u8 0), (.int .u8 0), (.bool false), (.bool false), (.bool false), (.string ⟨#[]⟩), (.int .u8 0), (.int .u8 0), (.int .u8 0), (.bool false), (.bool false), (.bool false), (.string ⟨#[]⟩), (.int .u8 0), (.int .u8 0), (.int .u8 0), (.bool false), (.bool false), (.bool false), (.string ⟨#[]⟩), (.int .u8 0), (.int .u8 0), (.int .u8 0), (.bool false), (.bool false), (.bool false), (.string ⟨#[]⟩), (.int .u8 0), (.int .u8 0), (.int .u8 0), (.bool false), (.bool false), (.bool false), (.string ⟨#[]⟩), (.int .u8 0), (.int .u8 0), (.int .u8 0), (.bool false), (.bool false), (.bool false), (.string ⟨#[]⟩), (.int .u8 0), (.int .u8 0), (.int .u8 0), (.bool false), (.bool false), (.bool false), (.string ⟨#[]⟩), (.int .u8 0), (.int .u8 0), (.int .u8 0), (.bool false), (.bool false), (.bool false), (.string ⟨#[]⟩), (.int .u8 0), (.int .u8 0), (.int .u8 0), (.bool false), (.bool false), (.bool false), (.string ⟨#[]⟩), (.int .u8 0), (.int .u8 0), (.int .u8 0), (.bool false), (.bool false), (.bool false), (.string ⟨#[]⟩), (.int .u8 0), (.int .u8 0), (.int .u8 0), (.bool false), (.bool false), (.bool false), (.string ⟨#[]⟩), (.int .u8 0), (.int .u8 0), (.int .u8 0), (.bool false), (.bool false), (.bool false), (.string ⟨#[]⟩), (.int .u8 0), (.int .u8 0), (.int .u8 0), (.bool false), (.bool false), (.bool false), (.string ⟨#[]⟩), (.int .u8 0), (.int .u8 0), (.int .u8 0), (.bool false), (.bool false), (.bool false), (.string ⟨#[]⟩), (.int .u8 0), (.int .u8 0), (.int .u8 0), (.bool false), (.bool false), (.bool false), (.string ⟨#[]⟩), (.int .u8 0), (.int .u8 0), (.int .u8 0), (.bool false), (.bool false), (.bool false)] 7), []⟩]
 (O [⟨some 1, none, .q (.val (.func 144)), []⟩]
 (O [⟨some 2, none, .q (.val (.func 145)), []⟩]
 (O [⟨some 3, none, .q (.build [(.string ⟨#[]⟩), (.int .u8 0), (.int .u8 0), (.int .u8 0), (.bool false), (.bool false), (.bool false)] [(0, 1, (.const (.string ⟨#[110, 111, 112]⟩))), (4, 1, (.const (.bool true)))]), []⟩, ⟨some 4, none, .q (.build [(.int .u8 0), (.int .u8 0), (.int .u8 0)] [(0, 1, (.const (.int .u8 2))), (1, 1, (.const (.int .u8 1)))]), []⟩, ⟨some 5, none, .q (.build [(.string ⟨#[]⟩), (.int .u8 0), (.int .u8 0), (.int .u8 0), (.bool false), (.bool false), (.bool false)] [(0, 1, (.const (.string ⟨#[99, 111, 110, 115, 116]⟩))), (1, 3, (.tmp 4)), (4, 1, (.const (.bool true)))]), []⟩, ⟨some 6, none, .q (.build [(.int .u8 0), (.int .u8 0), (.int .u8 0)] [(0, 1, (.const (.int .u8 2))), (1, 1, (.const (.int .u8 3)))]), []⟩, ⟨some 7, none, .q (.build [(.string ⟨#[]⟩), (.int .u8 0), (.int .u8 0), (.int .u8 0), (.bool false), (.bool false), (.bool false)] [(0, 1, (.const (.string ⟨#[109, 111, 118, 101]⟩))), (1, 3, (.tmp 6)), (4, 1, (.const (.bool true)))]), []⟩, V 8 1, ⟨some 9, none, .callv (.tmp 8) [(.const (.string ⟨#[97, 100, 100]⟩))], []⟩, V 10 1, ⟨some 11, none, .callv (.tmp 10) [(.const (.string ⟨#[115, 117, 98]⟩))], []⟩, V 12 1, ⟨some 13, none, .callv (.tmp 12) [(.const (.string ⟨#[109, 117, 108]⟩))], []⟩, V 14 1, ⟨some 15, none, .callv (.tmp 14) [(.const (.string ⟨#[108, 101, 115, 115]⟩))], []⟩, ⟨some 16, none, .q (.build [(.int .u8 0), (.int .u8 0), (.int .u8 0)] [(0, 1, (.const (.int .u8 2))), (1, 1, (.const (.int .u8 4)))]), []⟩, ⟨some 17, none, .q (.build [(.string ⟨#[]⟩), (.int .u8 0), (.int .u8 0), (.int .u8 0), (.bool false), (.bool false), (.bool false)] [(0, 1, (.const (.string ⟨#[108, 111, 97, 100]⟩))), (1, 3, (.tmp 16)), (4, 1, (.const (.bool true)))]), []⟩, ⟨some 18, none, .q (.build [(.int .u8 0), (.int .u8 0), (.int .u8 0)] [(0, 1, (.const (.int .u8 4))), (1, 1, (.const (.int .u8 3)))]), []⟩, ⟨some 19, none, .q (.build [(.string ⟨#[]⟩), (.int .u8 0), (.int .u8 0), (.int .u8 0), (.bool false), (.bool false), (.bool false)] [(0, 1, (.const (.string ⟨#[115, 116, 111, 114, 101]⟩))), (1, 3, (.tmp 18)), (4, 1, (.const (.bool true)))]), []⟩, V 20 2, ⟨some 21, none, .callv (.tmp 20) [(.const (.string ⟨#[112, 114, 105, 110, 116]⟩)), (.const (.int .u8 3)), (.const (.bool false)), (.const (.bool false))], []⟩, V 22 2, ⟨some 23, none, .callv (.tmp 22) [(.const (.string ⟨#[106, 117, 109, 112]⟩)), (.const (.int .u8 5)), (.const (.bool false)), (.const (.bool false))], []⟩, ⟨some 24, none, .q (.build [(.int .u8 0), (.int .u8 0), (.int .u8 0)] [(0, 1, (.const (.int .u8 3))), (1, 1, (.const (.int .u8 5)))]), []⟩, ⟨some 25, none, .q (.build [(.string ⟨#[]⟩), (.int .u8 0), (.int .u8 0), (.int .u8 0), (.bool false), (.bool false), (.bool false)] [(0, 1, (.const (.string ⟨#[122, 101, 114, 111]⟩))), (1, 3, (.tmp 24))]), []⟩, V 26 2, ⟨some 27, none, .callv (.tmp 26) [(.const (.string ⟨#[103, 111]⟩)), (.const (.int .u8 6)), (.const (.bool false)), (.const (.bool true))], []⟩, V 28 2, ⟨some 29, none, .callv (.tmp 28) [(.const (.string ⟨#[108, 111, 99, 107]⟩)), (.const (.int .u8 7)), (.const (.bool true)), (.const (.bool false))], []⟩, V 30 2, ⟨some 31, none, .callv (.tmp 30) [(.const (.string ⟨#[117, 110, 108, 111, 99, 107]⟩)), (.const (.int .u8 7)), (.const (.bool false)), (.const (.bool true))], []⟩, V 32 2, ⟨some 33, none, .callv (.tmp 32) [(.const (.string ⟨#[114, 108, 111, 99, 107]⟩)), (.const (.int .u8 7)), (.const (.bool true)), (.const (.bool false))], []⟩, V 34 2, ⟨some 35, none, .callv (.tmp 34) [(.const (.string ⟨#[114, 117, 110, 108, 111, 99, 107]⟩)), (.const (.int .u8 7)), (.const (.bool false)), (.const (.bool true))], []⟩, ⟨some 36, none, .q (.build [(.int .u8 0), (.int .u8 0), (.int .u8 0)] [(0, 1, (.const (.int .u8 2))), (1, 1, (.const (.int .u8 8)))]), []⟩, ⟨some 37, none, .q (.build [(.string ⟨#[]⟩), (.int .u8 0), (.int .u8 0), (.int .u8 0), (.bool false), (.bool false), (.bool false)] [(0, 1, (.const (.string ⟨#[114, 101, 97, 100]⟩))), (1, 3, (.tmp 36)), (5, 1, (.const (.bool true)))]), []⟩, ⟨some 38, none, .q (.build [(.int .u8 0), (.int .u8 0), (.int .u8 0)] [(0, 1, (.const (.int .u8 8))), (1, 1, (.const (.int .u8 3)))]), []⟩, ⟨some 39, none, .q (.build [(.string ⟨#[]⟩), (.int .u8 0), (.int .u8 0), (.int .u8 0), (.bool false), (.bool false), (.bool false)] [(0, 1, (.const (.string ⟨#[119, 114, 105, 116, 101]⟩))), (1, 3, (.tmp 38)), (6, 1, (.const (.bool true)))]), []⟩, ⟨some 40, none, .q (.build [(.int .u8 0), (.int .u8 0), (.int .u8 0)] [(0, 1, (.const (.int .u8 2))), (1, 1, (.const (.int .u8 8))), (2, 1, (.const (.int .u8 3)))]), []⟩, ⟨some 41, none, .q (.build [(.string ⟨#[]⟩), (.int .u8 0), (.int .u8 0), (.int .u8 0), (.bool false), (.bool false), (.bool false)] [(0, 1, (.const (.string ⟨#[98, 117, 109, 112]⟩))), (1, 3, (.tmp 40)), (5, 1, (.const (.bool true))), (6, 1, (.const (.bool true)))]), []⟩, ⟨some 42, none, .q (.build [(.int .u8 0), (.int .u8 0), (.int .u8 0)] [(0, 1, (.const (.int .u8 9))), (1, 1, (.const (.int .u8 3)))]), []⟩, ⟨some 43, none, .q (.build [(.string ⟨#[]⟩), (.int .u8 0), (.int .u8 0), (.int .u8 0), (.bool false), (.bool false), (.bool false)] [(0, 1, (.const (.string ⟨#[115, 101, 110, 100]⟩))), (1, 3, (.tmp 42)), (5, 1, (.const (.bool true))), (6, 1, (.const (.bool true)))]), []⟩, ⟨some 44, none, .q (.build [(.int .u8 0), (.int .u8 0), (.int .u8 0)] [(0, 1, (.const (.int .u8 2))), (1, 1, (.const (.int .u8 9)))]), []⟩, ⟨some 45, none, .q (.build [(.string ⟨#[]⟩), (.int .u8 0), (.int .u8 0), (.int .u8 0), (.bool false), (.bool false), (.bool false)] [(0, 1, (.const (.string ⟨#[114, 101, 99, 118]⟩))), (1, 3, (.tmp 44)), (5, 1, (.const (.bool true))), (6, 1, (.const (.bool true)))]), []⟩, ⟨some 46, none, .q (.build [(.int .u8 0), (.int .u8 0), (.int .u8 0)] [(0, 1, (.const (.int .u8 2))), (1, 1, (.const (.int .u8 9))), (2, 1, (.const (.int .u8 2)))]), []⟩, ⟨some 47, none, .q (.build [(.string ⟨#[]⟩), (.int .u8 0), (.int .u8 0), (.int .u8 0), (.bool false), (.bool false), (.bool false)] [(0, 1, (.const (.string ⟨#[112, 111, 108, 108]⟩))), (1, 3, (.tmp 46)), (5, 1, (.const (.bool true))), (6, 1, (.const (.bool true)))]), []⟩, V 48 2, ⟨some 49, none, .callv (.tmp 48) [(.const (.string ⟨#[99, 108, 111, 115, 101]⟩)), (.const (.int .u8 9)), (.const (.bool false)), (.const (.bool true))], []⟩, ⟨some 50, none, .q (.build [(.int .u8 0), (.int .u8 0), (.int .u8 0)] [(0, 1, (.const (.int .u8 10))), (1, 1, (.const (.int .u8 1)))]), []⟩, ⟨some 51, none, .q (.build [(.string ⟨#[]⟩), (.int .u8 0), (.int .u8 0), (.int .u8 0), (.bool false), (.bool false), (.bool false)] [(0, 1, (.const (.string ⟨#[103, 114, 111, 119]⟩))), (1, 3, (.tmp 50)), (6, 1, (.const (.bool true)))]), []⟩, V 52 2, ⟨some 53, none, .callv (.tmp 52) [(.const (.string ⟨#[119, 97, 105, 116]⟩)), (.const (.int .u8 10)), (.const (.bool true)), (.const (.bool false))], []⟩, ⟨some 54, none, .q (.build [(.int .u8 0), (.int .u8 0), (.int .u8 0)] [(0, 1, (.const (.int .u8 2))), (1, 1, (.const (.int .u8 11)))]), []⟩, ⟨some 55, none, .q (.build [(.string ⟨#[]⟩), (.int .u8 0), (.int .u8 0), (.int .u8 0), (.bool false), (.bool false), (.bool false)] [(0, 1, (.const (.string ⟨#[98, 101, 103, 105, 110]⟩))), (1, 3, (.tmp 54)), (5, 1, (.const (.bool true)))]), []⟩, V 56 2, ⟨some 57, none, .callv (.tmp 56) [(.const (.string ⟨#[101, 110, 100]⟩)), (.const (.int .u8 11)), (.const (.bool false)), (.const (.bool true))], []⟩, ⟨some 58, none, .q (.build [(.string ⟨#[]⟩), (.int .u8 0), (.int .u8 0), (.int .u8 0), (.bool false), (.bool false), (.bool false), (.string ⟨#[]⟩), (.int .u8 0), (.int .u8 0), (.int .u8 0), (.bool false), (.bool false), (.bool false), (.string ⟨#[]⟩), (.int .u8 0), (.int .u8 0), (.int .u8 0), (.bool false), (.bool false), (.bool false), (.string ⟨#[]⟩), (.int .u8 0), (.int .u8 0), (.int .u8 0), (.bool false), (.bool false), (.bool false), (.string ⟨#[]⟩), (.int .u8 0), (.int .u8 0), (.int .u8 0), (.bool false), (.bool false), (.bool false), (.string ⟨#[]⟩), (.int .u8 0), (.int .u8 0), (.int .u8 0), (.bool false), (.bool false), (.bool false), (.string ⟨#[]⟩), (.int .u8 0), (.int .u8 0), (.int .u8 0), (.bool false), (.bool false), (.bool false), (.string ⟨#[]⟩), (.int .u8 0), (.int .u8 0), (.int .u8 0), (.bool false), (.bool false), (.bool false), (.string ⟨#[]⟩), (.int .u8 0), (.int .u8 0), (.int .u8 0), (.bool false), (.bool false), (.bool false), (.string ⟨#[]⟩), (.int .u8 0), (.int .u8 0), (.int .u8 0), (.bool false), (.bool false), (.bool false), (.string ⟨#[]⟩), (.int .u8 0), (.int .u8 0), (.int .u8 0), (.bool false), (.bool false), (.bool false), (.string ⟨#[]⟩), (.int .u8 0), (.int .u8 0), (.int .u8 0), (.bool false), (.bool false), (.bool false), (.string ⟨#[]⟩), (.int .u8 0), (.int .u8 0), (.int .u8 0), (.bool false), (.bool false), (.bool false), (.string ⟨#[]⟩), (.int .u8 0), (.int .u8 0), (.int .u8 0), (.bool false), (.bool false), (.bool false), (.string ⟨#[]⟩), (.int .u8 0), (.int .u8 0), (.int .u8 0), (.bool false), (.bool false), (.bool false), (.string ⟨#[]⟩), (.int .u8 0), (.int .u8 0), (.int .u8 0), (.bool false), (.bool false), (.bool false), (.string ⟨#[]⟩), (.int .u8 0), (.int .u8 0), (.int .u8 0), (.bool false), (.bool false), (.bool false), (.string ⟨#[]⟩), (.int .u8 0), (.int .u8 0), (.int .u8 0), (.bool false), (.bool false), (.bool false), (.string ⟨#[]⟩), (.int .u8 0), (.int .u8 0), (.int .u8 0), (.bool false), (.bool false), (.bool false), (.string ⟨#[]⟩), (.int .u8 0), (.int .u8 0), (.int .u8 0), (.bool false), (.bool false), (.bool false), (.string ⟨#[]⟩), (.int .u8 0), (.int .u8 0), (.int .u8 0), (.bool false), (.bool false), (.bool false), (.string ⟨#[]⟩), (.int .u8 0), (.int .u8 0), (.int .u8 0), (.bool false), (.bool false), (.bool false), (.string ⟨#[]⟩), (.int .u8 0), (.int .u8 0), (.int .u8 0), (.bool false), (.bool false), (.bool false), (.string ⟨#[]⟩), (.int .u8 0), (.int .u8 0), (.int .u8 0), (.bool false), (.bool false), (.bool false), (.string ⟨#[]⟩), (.int .u8 0), (.int .u8 0), (.int .u8 0), (.bool false), (.bool false), (.bool false), (.string ⟨#[]⟩), (.int .u8 0), (.int .u8 0), (.int .u8 0), (.bool false), (.bool false), (.bool false), (.string ⟨#[]⟩), (.int .u8 0), (.int .u8 0), (.int .u8 0), (.bool false), (.bool false), (.bool false), (.string ⟨#[]⟩), (.int .u8 0), (.int .u8 0), (.int .u8 0), (.bool false), (.bool false), (.bool false)] [(0, 7, (.tmp 3)), (7, 7, (.tmp 5)), (14, 7, (.tmp 7)), (21, 7, (.tmp 9)), (28, 7, (.tmp 11)), (35, 7, (.tmp 13)), (42, 7, (.tmp 15)), (49, 7, (.tmp 17)), (56, 7, (.tmp 19)), (63, 7, (.tmp 21)), (70, 7, (.tmp 23)), (77, 7, (.tmp 25)), (84, 7, (.tmp 27)), (91, 7, (.tmp 29)), (98, 7, (.tmp 31)), (105, 7, (.tmp 33)), (112, 7, (.tmp 35)), (119, 7, (.tmp 37)), (126, 7, (.tmp 39)), (133, 7, (.tmp 41)), (140, 7, (.tmp 43)), (147, 7, (.tmp 45)), (154, 7, (.tmp 47)), (161, 7, (.tmp 49)), (168, 7, (.tmp 51)), (175, 7, (.tmp 53)), (182, 7, (.tmp 55)), (189, 7, (.tmp 57))]), []⟩, ⟨none, none, .e (.store 196 (.tmp 0) (.tmp 58)), []⟩]
 .ret)))), [.cells 0 196], 59⟩
theorem c_shapes_is : cFunc Proofs.Try.prog Proofs.Try.f140 = some (eraseF c_shapes) := by kernel_rfl
theorem call_shapes {args : List Value} {h : Heap} {K : Value → Heap → Prop} (hl : args.length ≤ 59) (k : pwp Proofs.Try.prog c_shapes.body (BodyK c_shapes.results K) (enterF args) h) : PCall Proofs.Try.prog 140 args h K :=
  pcall_of (by kernel_rfl) (by kernel_rfl) c_shapes_is (by kernel_rfl) hl k
def c_shapes1 : AFn :=
⟨(O [⟨some 2, none, .e (.new [(.string ⟨#[]⟩), (.int .u8 0), (.int .u8 0), (.int .u8 0), (.bool false), (.bool false), (.bool false)] 7), []⟩]
 (O [V 3 0, ⟨some 4, none, .q (.build [(.int .u8 0), (.int .u8 0), (.int .u8 0)] [(0, 1, (.const (.int .u8 2))), (1, 1, (.const (.int .u8 3))), (2, 1, (.const (.int .u8 3)))]), []⟩, ⟨some 5, none, .q (.build [(.string ⟨#[]⟩), (.int .u8 0), (.int .u8 0), (.int .u8 0), (.bool false), (.bool false), (.bool false)] [(0, 1, (.tmp 3)), (1, 3, (.tmp 4)), (4, 1, (.const (.bool true))), (5, 1, (.const (.bool false))), (6, 1, (.const (.bool false)))]), []⟩, ⟨none, none, .e (.store 7 (.tmp 2) (.tmp 5)), []⟩]
 .ret)), [.cells 2 7], 6⟩
theorem c_shapes1_is : cFunc Proofs.Try.prog Proofs.Try.f144 = some (eraseF c_shapes1) := by kernel_rfl
theorem call_shapes1 {args : List Value} {h : Heap} {K : Value → Heap → Prop} (hl : args.length ≤ 6) (k : pwp Proofs.Try.prog c_shapes1.body (BodyK c_shapes1.results K) (enterF args) h) : PCall Proofs.Try.prog 144 args h K :=
  pcall_of (by kernel_rfl) (by kernel_rfl) c_shapes1_is (by kernel_rfl) hl k
def c_shapes2 : AFn :=
⟨(O [⟨some 8, none, .e (.new [(.string ⟨#[]⟩), (.int .u8 0), (.int .u8 0), (.int .u8 0), (.bool false), (.bool false), (.bool false)] 7), []⟩]
 (O [V 9 0, V 10 1, ⟨some 11, none, .q (.build [(.int .u8 0), (.int .u8 0), (.int .u8 0)] [(0, 1, (.tmp 10))]), []⟩, V 12 2, V 13 3, ⟨some 14, none, .q (.build [(.string ⟨#[]⟩), (.int .u8 0), (.int .u8 0), (.int .u8 0), (.bool false), (.bool false), (.bool false)] [(0, 1, (.tmp 9)), (1, 3, (.tmp 11)), (4, 1, (.const (.bool false))), (5, 1, (.tmp 12)), (6, 1, (.tmp 13))]), []⟩, ⟨none, none, .e (.store 7 (.tmp 8) (.tmp 14)), []⟩]
 .ret)), [.cells 8 7], 15⟩
theorem c_shapes2_is : cFunc Proofs.Try.prog Proofs.Try.f145 = some (eraseF c_shapes2) := by kernel_rfl
theorem call_shapes2 {args : List Value} {h : Heap} {K : Value → Heap → Prop} (hl : args.length ≤ 15) (k : pwp Proofs.Try.prog c_shapes2.body (BodyK c_shapes2.results K) (enterF args) h) : PCall Proofs.Try.prog 145 args h K :=
  pcall_of (by kernel_rfl) (by kernel_rfl) c_shapes2_is (by kernel_rfl) hl k
def c_irOf : AFn :=
⟨(O [⟨some 2, none, .e (.new [(.string ⟨#[]⟩), (.int .u8 0), (.int .u8 0), (.int .u8 0), (.bool false), (.bool false), (.bool false)] 7), []⟩, T 3 false]
 (O [⟨some 5, none, .call 140 [], []⟩, ⟨some 4, none, .e (.new z196 7), []⟩, ⟨none, none, .e (.store 196 (.tmp 4) (.tmp 5)), []⟩]
 (.seq (O [V 6 0, Cv' 7 .i64 6, Bn 8 .geq 7 28]
 (.cond (.tmp 8)
 (O [⟨some 9, none, .q (.build [(.string ⟨#[]⟩), (.int .u8 0), (.int .u8 0), (.int .u8 0), (.bool false), (.bool false), (.bool false)] []), []⟩, ⟨none, none, .e (.store 7 (.tmp 2) (.tmp 9)), []⟩, T 3 false]
 .ret)
 .skip))
 (O [V 10 0, ⟨some 11, none, .q (.idxP 28 7 (.tmp 4) (.tmp 10)), []⟩, LA 12 7 11, ⟨none, none, .e (.store 7 (.tmp 2) (.tmp 12)), []⟩, T 3 true]
 .ret)))), [.cells 2 7, .tmp 3], 13⟩
theorem c_irOf_is : cFunc Proofs.Try.prog Proofs.Try.f122 = some (eraseF c_irOf) := by kernel_rfl
theorem call_irOf {args : List Value} {h : Heap} {K : Value → Heap → Prop} (hl : args.length ≤ 13) (k : pwp Proofs.Try.prog c_irOf.body (BodyK c_irOf.results K) (enterF args) h) : PCall Proofs.Try.prog 122 args h K :=
  pcall_of (by kernel_rfl) (by kernel_rfl) c_irOf_is (by kernel_rfl) hl k
def c_registers : AFn :=
⟨(O [⟨some 2, none, .e (.box 4 4 (.tmp 0)), []⟩, ⟨some 4, none, .q (.val (.const (.int .u64 0))), []⟩]
 (O [FA 11 0 2, L 12 11, ⟨some 13, none, .call 122 [(.tmp 12)], []⟩, V 10 13, ⟨some 14, none, .q (.ext (.tmp 10) 0), []⟩, ⟨some 15, none, .q (.ext (.tmp 10) 1), []⟩, ⟨some 5, none, .e (.new [(.string ⟨#[]⟩), (.int .u8 0), (.int .u8 0), (.int .u8 0), (.bool false), (.bool false), (.bool false)] 7), []⟩, ⟨none, none, .e (.store 7 (.tmp 5) (.tmp 14)), []⟩, V 6 15]
 (O [⟨some 7, none, .q (.val (.const (.int .u64 0))), []⟩]
 (.seq (O [FA 16 1 2, L 17 16, FA 18 2 2, L 19 18, FA 20 3 2, L 21 20, ⟨some 22, none, .q (.build [(.int .i64 0), (.int .i64 0), (.int .i64 0)] [(0, 1, (.tmp 17)), (1, 1, (.tmp 19)), (2, 1, (.tmp 21))]), []⟩, N 23 0]
 (.block 0 (.loop (O [Bn 24 .lss 23 3]
 (.seq (.cond (.tmp 24)
 .skip
 (.exit 0))
 (.seq (.block 1 (O [V 25 23, ⟨some 26, none, .q (.idx none 3 1 (.tmp 22) (.tmp 23)), []⟩, V 8 25, V 9 26]
 (O [V 27 8, FA 28 1 5, ⟨some 29, none, .q (.idxP 3 1 (.tmp 28) (.tmp 27)), []⟩, L 30 29, V 31 1, B 32 .eql 30 31]
 (.cond (.tmp 32)
 (.ops [V 33 7, V 34 9, ⟨some 35, none, .e (.lit [(.int .i64 0)] 1 1 [(0, 1, (.tmp 34))]), []⟩, Z 1 35, ⟨some 36, none, .call 55 [(.tmp 33), (.tmp 35)], []⟩, V 7 36])
 .skip))))
 (.ops [Bn 37 .add 23 1, V 23 37])))))))
 (O [V 38 7, V 4 38]
 .ret))))), [.tmp 4], 39⟩
theorem c_registers_is : cFunc Proofs.Try.prog Proofs.Try.f104 = some (eraseF c_registers) := by kernel_rfl
theorem call_registers {args : List Value} {h : Heap} {K : Value → Heap → Prop} (hl : args.length ≤ 39) (k : pwp Proofs.Try.prog c_registers.body (BodyK c_registers.results K) (enterF args) h) : PCall Proofs.Try.prog 104 args h K :=
  pcall_of (by kernel_rfl) (by kernel_rfl) c_registers_is (by kernel_rfl) hl k
def c_irSets : AFn :=
⟨(O [⟨some 1, none, .e (.box 4 4 (.tmp 0)), []⟩, ⟨some 2, none, .q (.val (.const (.int .u64 0))), []⟩]
 (O [LA 3 4 1, ⟨some 4, none, .call 104 [(.tmp 3), (.const (.int .u8 2))], []⟩, V 2 4]
 .ret)), [.tmp 2], 5⟩
theorem c_irSets_is : cFunc Proofs.Try.prog Proofs.Try.f89 = some (eraseF c_irSets) := by kernel_rfl
theorem call_irSets {args : List Value} {h : Heap} {K : Value → Heap → Prop} (hl : args.length ≤ 5) (k : pwp Proofs.Try.prog c_irSets.body (BodyK c_irSets.results K) (enterF args) h) : PCall Proofs.Try.prog 89 args h K :=
  pcall_of (by kernel_rfl) (by kernel_rfl) c_irSets_is (by kernel_rfl) hl k
def c_bHas : AFn :=
⟨(O [T 4 false]
 (O [V 5 0, V 6 1, ⟨some 7, none, .call 84 [(.tmp 6)], []⟩, B 8 .and 5 7, Bk 9 .neq 8 .u64 0, V 4 9]
 .ret)), [.tmp 4], 10⟩
theorem c_bHas_is : cFunc Proofs.Try.prog Proofs.Try.f74 = some (eraseF c_bHas) := by kernel_rfl
theorem call_bHas {args : List Value} {h : Heap} {K : Value → Heap → Prop} (hl : args.length ≤ 10) (k : pwp Proofs.Try.prog c_bHas.body (BodyK c_bHas.results K) (enterF args) h) : PCall Proofs.Try.prog 74 args h K :=
  pcall_of (by kernel_rfl) (by kernel_rfl) c_bHas_is (by kernel_rfl) hl k
def c_R2Sets : AFn :=
⟨(O [⟨some 1, none, .e (.box 4 4 (.tmp 0)), []⟩, ⟨some 2, none, .q (.val (.const (.int .u64 0))), []⟩]
 (O [LA 3 4 1, ⟨some 4, none, .call 93 [(.tmp 3), (.const (.int .i64 2))], []⟩, V 2 4]
 .ret)), [.tmp 2], 5⟩
theorem c_R2Sets_is : cFunc Proofs.Try.prog Proofs.Try.f71 = some (eraseF c_R2Sets) := by kernel_rfl
theorem call_R2Sets {args : List Value} {h : Heap} {K : Value → Heap → Prop} (hl : args.length ≤ 5) (k : pwp Proofs.Try.prog c_R2Sets.body (BodyK c_R2Sets.results K) (enterF args) h) : PCall Proofs.Try.prog 71 args h K :=
  pcall_of (by kernel_rfl) (by kernel_rfl) c_R2Sets_is (by kernel_rfl) hl k
def c_R2of : AFn :=
⟨(O [⟨some 2, none, .e (.box 4 4 (.tmp 0)), []⟩, ⟨some 4, none, .q (.val (.const (.int .u64 0))), []⟩]
 (O [⟨some 5, none, .q (.val (.const (.int .u64 0))), []⟩]
 (O [FA 9 0 2, L 10 9, ⟨some 11, none, .call 97 [(.tmp 10)], []⟩, V 6 11]
 (O [LA 12 4 2, ⟨some 13, none, .call 98 [(.tmp 12)], []⟩, V 7 13]
 (.seq (O [N 8 0]
 (.block 0 (.loop (.seq (O [V 14 8, Bn 15 .lss 14 3]
 (.cond (.tmp 15)
 .skip
 (.exit 0)))
 (.seq (.block 1 (O [V 18 6, V 19 8, X 20 1 18 19, L 21 20, V 22 1, B 23 .eql 21 22]
 (.cond (.tmp 23)
 (.ops [V 24 5, V 25 7, V 26 8, X 27 1 25 26, L 28 27, ⟨some 29, none, .e (.lit [(.int .i64 0)] 1 1 [(0, 1, (.tmp 28))]), []⟩, Z 1 29, ⟨some 30, none, .call 68 [(.tmp 24), (.tmp 29)], []⟩, V 5 30])
 .skip)))
 (.ops [V 16 8, Bn 17 .add 16 1, V 8 17]))))))
 (O [V 31 5, V 4 31]
 .ret)))))), [.tmp 4], 32⟩
theorem c_R2of_is : cFunc Proofs.Try.prog Proofs.Try.f93 = some (eraseF c_R2of) := by kernel_rfl
theorem call_R2of {args : List Value} {h : Heap} {K : Value → Heap → Prop} (hl : args.length ≤ 32) (k : pwp Proofs.Try.prog c_R2of.body (BodyK c_R2of.results K) (enterF args) h) : PCall Proofs.Try.prog 93 args h K :=
  pcall_of (by kernel_rfl) (by kernel_rfl) c_R2of_is (by kernel_rfl) hl k
def c_R2row : AFn :=
⟨(O [E 2]
 (.seq (O [V 3 0]
 (.block 0 (O [Bk 5 .eql 3 .u8 1, V 4 5]
 (.cond (.tmp 4)
 (O [⟨some 6, none, .e (.lit [(.int .i64 0), (.int .i64 0), (.int .i64 0)] 1 3 [(0, 1, (.const (.int .i64 2))), (1, 1, (.const (.int .i64 1))), (2, 1, (.const (.int .i64 0)))]), []⟩, V 2 6]
 .ret)
 (O [Bk 8 .eql 3 .u8 2, V 7 8]
 (.cond (.tmp 7)
 (O [⟨some 9, none, .e (.lit [(.int .i64 0), (.int .i64 0), (.int .i64 0)] 1 3 [(0, 1, (.const (.int .i64 2))), (1, 1, (.const (.int .i64 3))), (2, 1, (.const (.int .i64 0)))]), []⟩, V 2 9]
 .ret)
 (.seq (O [Bk 11 .eql 3 .u8 3, V 10 11]
 (.cond (.tmp 10)
 .skip
 (O [Bk 12 .eql 3 .u8 4, V 10 12]
 (.cond (.tmp 10)
 .skip
 (O [Bk 13 .eql 3 .u8 5, V 10 13]
 (.cond (.tmp 10)
 .skip
 (.ops [Bk 14 .eql 3 .u8 6, V 10 14])))))))
 (.cond (.tmp 10)
 (O [⟨some 15, none, .e (.lit [(.int .i64 0), (.int .i64 0), (.int .i64 0)] 1 3 [(0, 1, (.const (.int .i64 2))), (1, 1, (.const (.int .i64 3))), (2, 1, (.const (.int .i64 3)))]), []⟩, V 2 15]
 .ret)
 (O [Bk 17 .eql 3 .u8 7, V 16 17]
 (.cond (.tmp 16)
 (O [⟨some 18, none, .e (.lit [(.int .i64 0), (.int .i64 0), (.int .i64 0)] 1 3 [(0, 1, (.const (.int .i64 2))), (1, 1, (.const (.int .i64 4))), (2, 1, (.const (.int .i64 0)))]), []⟩, V 2 18]
 .ret)
 (O [Bk 20 .eql 3 .u8 8, V 19 20]
 (.cond (.tmp 19)
 (O [⟨some 21, none, .e (.lit [(.int .i64 0), (.int .i64 0), (.int .i64 0)] 1 3 [(0, 1, (.const (.int .i64 4))), (1, 1, (.const (.int .i64 3))), (2, 1, (.const (.int .i64 0)))]), []⟩, V 2 21]
 .ret)
 (O [Bk 23 .eql 3 .u8 9, V 22 23]
 (.cond (.tmp 22)
 (O [⟨some 24, none, .e (.lit [(.int .i64 0), (.int .i64 0), (.int .i64 0)] 1 3 [(0, 1, (.const (.int .i64 3))), (1, 1, (.const (.int .i64 0))), (2, 1, (.const (.int .i64 0)))]), []⟩, V 2 24]
 .ret)
 (O [Bk 26 .eql 3 .u8 10, V 25 26]
 (.cond (.tmp 25)
 (O [⟨some 27, none, .e (.lit [(.int .i64 0), (.int .i64 0), (.int .i64 0)] 1 3 [(0, 1, (.const (.int .i64 5))), (1, 1, (.const (.int .i64 0))), (2, 1, (.const (.int .i64 0)))]), []⟩, V 2 27]
 .ret)
 (O [Bk 29 .eql 3 .u8 11, V 28 29]
 (.cond (.tmp 28)
 (O [⟨some 30, none, .e (.lit [(.int .i64 0), (.int .i64 0), (.int .i64 0)] 1 3 [(0, 1, (.const (.int .i64 3))), (1, 1, (.const (.int .i64 5))), (2, 1, (.const (.int .i64 0)))]), []⟩, V 2 30]
 .ret)
 (O [Bk 32 .eql 3 .u8 12, V 31 32]
 (.cond (.tmp 31)
 (O [⟨some 33, none, .e (.lit [(.int .i64 0), (.int .i64 0), (.int .i64 0)] 1 3 [(0, 1, (.const (.int .i64 6))), (1, 1, (.const (.int .i64 0))), (2, 1, (.const (.int .i64 0)))]), []⟩, V 2 33]
 .ret)
 (.seq (O [Bk 35 .eql 3 .u8 13, V 34 35]
 (.cond (.tmp 34)
 .skip
 (O [Bk 36 .eql 3 .u8 14, V 34 36]
 (.cond (.tmp 34)
 .skip
 (O [Bk 37 .eql 3 .u8 15, V 34 37]
 (.cond (.tmp 34)
 .skip
 (.ops [Bk 38 .eql 3 .u8 16, V 34 38])))))))
 (.cond (.tmp 34)
 (O [⟨some 39, none, .e (.lit [(.int .i64 0), (.int .i64 0), (.int .i64 0)] 1 3 [(0, 1, (.const (.int .i64 7))), (1, 1, (.const (.int .i64 0))), (2, 1, (.const (.int .i64 0)))]), []⟩, V 2 39]
 .ret)
 (O [Bk 41 .eql 3 .u8 17, V 40 41]
 (.cond (.tmp 40)
 (O [⟨some 42, none, .e (.lit [(.int .i64 0), (.int .i64 0), (.int .i64 0)] 1 3 [(0, 1, (.const (.int .i64 2))), (1, 1, (.const (.int .i64 8))), (2, 1, (.const (.int .i64 0)))]), []⟩, V 2 42]
 .ret)
 (O [Bk 44 .eql 3 .u8 18, V 43 44]
 (.cond (.tmp 43)
 (O [⟨some 45, none, .e (.lit [(.int .i64 0), (.int .i64 0), (.int .i64 0)] 1 3 [(0, 1, (.const (.int .i64 8))), (1, 1, (.const (.int .i64 3))), (2, 1, (.const (.int .i64 0)))]), []⟩, V 2 45]
 .ret)
 (O [Bk 47 .eql 3 .u8 19, V 46 47]
 (.cond (.tmp 46)
 (O [⟨some 48, none, .e (.lit [(.int .i64 0), (.int .i64 0), (.int .i64 0)] 1 3 [(0, 1, (.const (.int .i64 2))), (1, 1, (.const (.int .i64 8))), (2, 1, (.const (.int .i64 3)))]), []⟩, V 2 48]
 .ret)
 (O [Bk 50 .eql 3 .u8 20, V 49 50]
 (.cond (.tmp 49)
 (O [⟨some 51, none, .e (.lit [(.int .i64 0), (.int .i64 0), (.int .i64 0)] 1 3 [(0, 1, (.const (.int .i64 9))), (1, 1, (.const (.int .i64 3))), (2, 1, (.const (.int .i64 0)))]), []⟩, V 2 51]
 .ret)
 (O [Bk 53 .eql 3 .u8 21, V 52 53]
 (.cond (.tmp 52)
 (O [⟨some 54, none, .e (.lit [(.int .i64 0), (.int .i64 0), (.int .i64 0)] 1 3 [(0, 1, (.const (.int .i64 2))), (1, 1, (.const (.int .i64 9))), (2, 1, (.const (.int .i64 0)))]), []⟩, V 2 54]
 .ret)
 (O [Bk 56 .eql 3 .u8 22, V 55 56]
 (.cond (.tmp 55)
 (O [⟨some 57, none, .e (.lit [(.int .i64 0), (.int .i64 0), (.int .i64 0)] 1 3 [(0, 1, (.const (.int .i64 2))), (1, 1, (.const (.int .i64 9))), (2, 1, (.const (.int .i64 2)))]), []⟩, V 2 57]
 .ret)
 (O [Bk 59 .eql 3 .u8 23, V 58 59]
 (.cond (.tmp 58)
 (O [⟨some 60, none, .e (.lit [(.int .i64 0), (.int .i64 0), (.int .i64 0)] 1 3 [(0, 1, (.const (.int .i64 9))), (1, 1, (.const (.int .i64 0))), (2, 1, (.const (.int .i64 0)))]), []⟩, V 2 60]
 .ret)
 (O [Bk 62 .eql 3 .u8 24, V 61 62]
 (.cond (.tmp 61)
 (O [⟨some 63, none, .e (.lit [(.int .i64 0), (.int .i64 0), (.int .i64 0)] 1 3 [(0, 1, (.const (.int .i64 10))), (1, 1, (.const (.int .i64 1))), (2, 1, (.const (.int .i64 0)))]), []⟩, V 2 63]
 .ret)
 (O [Bk 65 .eql 3 .u8 25, V 64 65]
 (.cond (.tmp 64)
 (O [⟨some 66, none, .e (.lit [(.int .i64 0), (.int .i64 0), (.int .i64 0)] 1 3 [(0, 1, (.const (.int .i64 10))), (1, 1, (.const (.int .i64 0))), (2, 1, (.const (.int .i64 0)))]), []⟩, V 2 66]
 .ret)
 (O [Bk 68 .eql 3 .u8 26, V 67 68]
 (.cond (.tmp 67)
 (O [⟨some 69, none, .e (.lit [(.int .i64 0), (.int .i64 0), (.int .i64 0)] 1 3 [(0, 1, (.const (.int .i64 2))), (1, 1, (.const (.int .i64 11))), (2, 1, (.const (.int .i64 0)))]), []⟩, V 2 69]
 .ret)
 (O [Bk 71 .eql 3 .u8 27, V 70 71]
 (.cond (.tmp 70)
 (O [⟨some 72, none, .e (.lit [(.int .i64 0), (.int .i64 0), (.int .i64 0)] 1 3 [(0, 1, (.const (.int .i64 11))), (1, 1, (.const (.int .i64 0))), (2, 1, (.const (.int .i64 0)))]), []⟩, V 2 72]
 .ret)
 .skip))))))))))))))))))))))))))))))))))))))))))))
 (O [⟨some 73, none, .e (.lit [(.int .i64 0), (.int .i64 0), (.int .i64 0)] 1 3 [(0, 1, (.const (.int .i64 0))), (1, 1, (.const (.int .i64 0))), (2, 1, (.const (.int .i64 0)))]), []⟩, V 2 73]
 .ret))), [.tmp 2], 74⟩
theorem c_R2row_is : cFunc Proofs.Try.prog Proofs.Try.f97 = some (eraseF c_R2row) := by kernel_rfl
theorem call_R2row {args : List Value} {h : Heap} {K : Value → Heap → Prop} (hl : args.length ≤ 74) (k : pwp Proofs.Try.prog c_R2row.body (BodyK c_R2row.results K) (enterF args) h) : PCall Proofs.Try.prog 97 args h K :=
  pcall_of (by kernel_rfl) (by kernel_rfl) c_R2row_is (by kernel_rfl) hl k
def c_R2num : AFn :=
⟨(O [⟨some 1, none, .e (.box 4 4 (.tmp 0)), []⟩, E 2]
 (O [FA 3 1 1, L 4 3, FA 5 2 1, L 6 5, FA 7 3 1, L 8 7, ⟨some 9, none, .e (.lit [(.int .i64 0), (.int .i64 0), (.int .i64 0)] 1 3 [(0, 1, (.tmp 4)), (1, 1, (.tmp 6)), (2, 1, (.tmp 8))]), []⟩, V 2 9]
 .ret)), [.tmp 2], 10⟩
theorem c_R2num_is : cFunc Proofs.Try.prog Proofs.Try.f98 = some (eraseF c_R2num) := by kernel_rfl
theorem call_R2num {args : List Value} {h : Heap} {K : Value → Heap → Prop} (hl : args.length ≤ 10) (k : pwp Proofs.Try.prog c_R2num.body (BodyK c_R2num.results K) (enterF args) h) : PCall Proofs.Try.prog 98 args h K :=
  pcall_of (by kernel_rfl) (by kernel_rfl) c_R2num_is (by kernel_rfl) hl k
end Pm

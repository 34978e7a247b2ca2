/-
  What SpoilPuts's row must say of the program: closed facts, each by itself. Conditions: none.
-/
import Derived.Test.YtmjjjhinedogjaaGreatDoorCards
import Derived.JoinedOf
import Derived.SevenTiedAt
import Derived.KernelRfl
namespace Go.Mg
open Go Go.Proofs Go.Proofs.YtmjjjhinedogjaaGreatDoor
set_option maxRecDepth 100000
theorem cl4:Tryz.prog.closure 4=[4,6,7,15,29,53,72,54,73,74,140,55,75,141,189,35,56,76,57,77,142,143,190,30,58,59,78,144,191,243,324,244,245,192,246,145,146,102,147,100,193,247,325,248,326,148,96,177,235,236,194,249,250,149,195,251,196,197,150,198,252,92,95,253,327,159,98,218,217,99,180,181,239,240,321,373,241,254,328,374,329,330,332,263,331,199,255,278,219,295,296,256,333,375,376,232,308,309,367,398,411,425,430,432,399,413,414,412,426,310,257,334,377,214,293,361,401,396,348,347,380,335,336,337,378,379,402,415,258,151,200,259,338,339,260,202,262,201,261,152,203,264,340,204,265,341,205,79,153,91,174,154,206,207,266,294,342,362,215,216,160,208,43,44,267,279,289,346,360,395,359,391,238,319,320,409,417,418,427,419,369,370,420,428,429,431,421,422,423,424,392,393,410,394,212,270,343,344,42,272,273,349,350,381,274,297,351,382,383,276,353,354,384,385,404,416,403,386,387,405,406,388,407,275,352,303,305,365,397,155,172,209,268,269,210,271,277,285,358,288,284,356,390,408,290,345,220,80,156,157,158,211,280,281,355,389,282,283,357,286,287,213,291,302,304,364,227,301,292,161,221,66,101,222,298,363,81,162,82,163,224,223,83,84,164,225,300,299,226,85,165,228,86,166,229,167,230,306,307,366,168,231,169,87,88,170,89,171,90,173,233,234,60,31,61,94,176,93,175,62,97,178,237,311,312,368,313,314,371,372,400,315,316,317,318,179,63,64,65,40,16,18,45,67,103,104,105,182,183,106,107,108,109,184,242,322,323,110,111,112,113,114,115,116,185,186,117,118,187,188,119,120,121,122,68,123,124,125,126,127,128,129,130,131,132,133,134,135,136,137,9,17,32,33,34,36,37,38,39,41,12,21,50,48,46,47,49,69,138,139,70,71,22,8,23,24,25,10,11,19,20,13,27,52,26,51,28,14]:=by kernel_rfl
theorem SA:Tryz.prog.inPlace 4=["slices.overlaps[polder/api.SpSpan]"]:=by
 unfold Program.inPlace;rw [cl4];kernel_rfl
theorem rY:Tryz.prog.unfollowed 4=true:=by
 unfold Program.unfollowed;rw [cl4];kernel_rfl
theorem Nt:Tryz.prog.recurses 4=true:=by
 unfold Program.recurses;rw [rY];rfl
theorem Ae:Tryz.prog.varsNamed 4=["math/bits.deBruijn64tab","math/bits.deBruijn32tab"]:=by
 unfold Program.varsNamed;rw [cl4];kernel_rfl
theorem qji:Tryz.prog.goes 4=false:=by
 unfold Program.goes;rw [cl4,rY];kernel_rfl
theorem qzX:Tryz.prog.funcNamed "polder/polderlaw29.SpoilPuts" = some 4:=by kernel_rfl
theorem Uz:false=Rows.spoilPutsRow.goesBy Tryz.prog:=by
 show false=((Tryz.prog.funcNamed "polder/polderlaw29.SpoilPuts").any Tryz.prog.goes || false);rw [qzX,Option.any_some,qji];rfl
end Go.Mg

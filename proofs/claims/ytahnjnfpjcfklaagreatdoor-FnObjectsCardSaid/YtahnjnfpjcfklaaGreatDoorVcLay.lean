import Derived.Shelf.LaysM
import Derived.Shelf.Lays
import Derived.Shelf.Strings.BuilderX
import Derived.Shelf.LaysC
import Derived.Shelf.SlLaysF
import Derived.Shelf.SlLaysF0
import Derived.Shelf.SlLaysM
import Derived.Test.YtahnjnfpjcfklaaGreatDoorProg
import Derived.KernelRfl
namespace Go.Proofs
set_option linter.unusedVariables false
set_option linter.unusedSimpArgs false
open Go.Shelf
theorem layF {P:Program} {n:Nat} {A:Func} (h:(((P.funcs[n]?).map Func.name).getD "" == "runtime.NumGoroutine")=false) (k:P.funcs[n]?=some { A with name:=((P.funcs[n]?).map Func.name).getD "" }):Bears P n A:=⟨_,h,k⟩
theorem layG {G:Prop} (h:G:=by repeat' first|kernel_rfl|(intro w;kernel_rfl)|exact layF (by kernel_rfl) (by kernel_rfl)|decide|constructor):G:=h
def Tryz.sortF_ren:Go.Shelf.Ren:=⟨fun|6=>238|15=>223|14=>288|28=>286|29=>273|20=>311|21=>312|22=>313|23=>314|24=>315|25=>316|26=>317|27=>318|46=>328|47=>307|48=>308|49=>329|50=>330|57=>340|n=>n,fun|22=>24|24=>50|25=>127|3=>3|39=>222|0=>0|53=>292|55=>90|4=>4|46=>297|45=>296|50=>207|5=>5|9=>9|66=>317|70=>321|76=>336|77=>337|n=>n,fun|n=>n⟩
theorem Tryz.sortF:Go.Proofs.SlLaysF.n6 Tryz.prog Tryz.sortF_ren:=layG
def Tryz.sortG_ren:Go.Shelf.Ren:=⟨fun|6=>238|15=>223|14=>288|28=>286|29=>273|20=>311|21=>312|22=>313|23=>314|24=>315|25=>316|26=>317|27=>318|46=>328|47=>307|48=>308|49=>329|50=>330|57=>340|n=>n,fun|22=>24|24=>50|25=>127|3=>3|39=>222|0=>0|53=>292|55=>90|4=>4|46=>297|45=>296|50=>207|5=>5|9=>9|66=>317|70=>321|76=>336|77=>337|n=>n,fun|n=>n⟩
theorem Tryz.sortG:Go.Proofs.SlLaysF0.n6 Tryz.prog Tryz.sortG_ren:=layG
def Tryz.sortK_ren:Go.Shelf.Ren:=⟨fun|6=>289|15=>223|14=>319|28=>286|29=>273|20=>331|21=>332|22=>333|23=>334|24=>335|25=>336|26=>337|27=>338|46=>341|47=>307|48=>308|49=>342|50=>343|57=>344|n=>n,fun|22=>73|24=>142|25=>205|3=>3|39=>222|0=>0|53=>292|55=>90|4=>4|46=>297|45=>296|50=>207|5=>5|9=>9|66=>317|70=>321|76=>336|77=>337|n=>n,fun|n=>n⟩
theorem Tryz.sortK:Go.Proofs.SlLaysF0.n6 Tryz.prog Tryz.sortK_ren:=layG
def Tryz.sortM_ren:Go.Shelf.Ren:=⟨fun|5=>146|8=>223|7=>222|19=>286|20=>273|10=>277|11=>278|12=>279|13=>280|14=>281|15=>282|16=>283|17=>284|18=>285|30=>306|31=>307|32=>308|33=>309|34=>310|35=>225|40=>327|n=>n,fun|23=>50|25=>2|3=>3|32=>222|22=>50|0=>0|44=>292|46=>90|4=>4|36=>297|35=>296|41=>207|5=>5|9=>9|53=>317|57=>321|63=>336|64=>337|n=>n,fun|n=>n⟩
theorem Tryz.sortM:Go.Proofs.SlLaysM.n5 Tryz.prog Tryz.sortM_ren:=layG
def Tryz.fmtM_ren:Go.Shelf.Ren:=⟨fun|173=>71|246=>142|283=>218|284=>219|285=>220|286=>221|129=>273|317=>272|318=>274|319=>275|320=>276|337=>304|338=>305|n=>n,fun|2=>2|3=>3|9=>9|4=>4|171=>257|0=>0|53=>90|37=>22|5=>5|173=>260|212=>291|51=>292|20=>20|213=>293|46=>222|232=>334|233=>335|n=>n,fun|17=>3|18=>6|19=>7|n=>n⟩
theorem Tryz.fmtM:Go.Proofs.LaysM.n173 Tryz.prog Tryz.fmtM_ren:=layG
def Tryz.joinL_ren:Go.Shelf.Ren:=⟨fun|156=>22|165=>68|166=>69|169=>70|240=>140|241=>141|276=>216|277=>217|n=>n,fun|31=>48|9=>9|3=>3|4=>4|0=>0|20=>20|72=>116|76=>118|70=>114|37=>22|75=>109|127=>189|164=>253|5=>5|80=>120|n=>n,fun|n=>n⟩
theorem Tryz.joinL:Go.Proofs.Lays.n156 Tryz.prog Tryz.joinL_ren:=layG
theorem Tryz.joinL_x:Builder.Extra Tryz.prog Tryz.joinL_ren:=layG
def Tryz.splitL_ren:Go.Shelf.Ren:=⟨fun|146=>18|221=>62|268=>133|138=>134|143=>135|195=>206|197=>207|218=>208|219=>209|260=>262|217=>263|225=>264|224=>265|267=>266|266=>301|314=>302|n=>n,fun|9=>9|31=>48|3=>3|4=>4|0=>0|105=>243|21=>21|5=>5|46=>222|119=>308|139=>311|138=>310|146=>312|51=>292|n=>n,fun|1=>0|3=>4|4=>5|n=>n⟩
theorem Tryz.splitL:Go.Proofs.Lays.n146 Tryz.prog Tryz.splitL_ren:=layG
def Tryz.parseL_ren:Go.Shelf.Ren:=⟨fun|174=>64|247=>137|245=>138|287=>211|279=>212|280=>213|281=>214|282=>215|321=>267|322=>268|316=>269|171=>271|205=>270|243=>303|246=>142|283=>218|284=>219|285=>220|286=>221|129=>273|317=>272|318=>274|319=>275|320=>276|337=>304|338=>305|n=>n,fun|9=>9|3=>3|2=>2|75=>109|85=>110|4=>4|167=>247|5=>5|53=>90|175=>248|46=>222|168=>250|37=>22|0=>0|210=>288|21=>21|127=>189|145=>316|143=>314|171=>257|173=>260|212=>291|51=>292|20=>20|213=>293|232=>334|233=>335|80=>120|n=>n,fun|15=>1|16=>2|17=>3|18=>6|19=>7|n=>n⟩
theorem Tryz.parseL:Go.Proofs.LaysC.n174 Tryz.prog Tryz.parseL_ren:=layG
end Go.Proofs

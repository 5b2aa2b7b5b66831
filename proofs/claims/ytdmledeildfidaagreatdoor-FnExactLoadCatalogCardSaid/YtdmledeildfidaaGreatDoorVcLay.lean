import Derived.Shelf.LaysM
import Derived.Shelf.Lays
import Derived.Shelf.Strings.BuilderX
import Derived.Shelf.LaysC
import Derived.Shelf.SlLaysF
import Derived.Shelf.SlLaysF0
import Derived.Shelf.SlLaysM
import Derived.Test.YtdmledeildfidaaGreatDoorProg
import Derived.KernelRfl
namespace Go.Proofs
set_option linter.unusedVariables false
set_option linter.unusedSimpArgs false
open Go.Shelf
theorem layF {P:Program} {n:Nat} {A:Func} (h:(((P.funcs[n]?).map Func.name).getD "" == "runtime.NumGoroutine")=false) (k:P.funcs[n]?=some { A with name:=((P.funcs[n]?).map Func.name).getD "" }):Bears P n A:=⟨_,h,k⟩
theorem layG {G:Prop} (h:G:=by repeat' first|kernel_rfl|(intro w;kernel_rfl)|exact layF (by kernel_rfl) (by kernel_rfl)|decide|constructor):G:=h
def Tryz.sortF_ren:Go.Shelf.Ren:=⟨fun|6=>295|15=>280|14=>322|28=>320|29=>221|20=>334|21=>335|22=>336|23=>337|24=>338|25=>339|26=>340|27=>341|46=>352|47=>330|48=>331|49=>353|50=>354|57=>358|n=>n,fun|22=>36|24=>82|25=>200|3=>3|39=>81|0=>0|53=>256|55=>184|4=>4|46=>317|45=>316|50=>242|5=>5|9=>9|66=>328|70=>332|76=>345|77=>346|n=>n,fun|n=>n⟩
theorem Tryz.sortF:Go.Proofs.SlLaysF.n6 Tryz.prog Tryz.sortF_ren:=layG
def Tryz.sortG_ren:Go.Shelf.Ren:=⟨fun|6=>295|15=>280|14=>322|28=>320|29=>221|20=>334|21=>335|22=>336|23=>337|24=>338|25=>339|26=>340|27=>341|46=>352|47=>330|48=>331|49=>353|50=>354|57=>358|n=>n,fun|22=>36|24=>82|25=>200|3=>3|39=>81|0=>0|53=>256|55=>184|4=>4|46=>317|45=>316|50=>242|5=>5|9=>9|66=>328|70=>332|76=>345|77=>346|n=>n,fun|n=>n⟩
theorem Tryz.sortG:Go.Proofs.SlLaysF0.n6 Tryz.prog Tryz.sortG_ren:=layG
def Tryz.sortK_ren:Go.Shelf.Ren:=⟨fun|6=>298|15=>280|14=>323|28=>320|29=>221|20=>342|21=>343|22=>344|23=>345|24=>346|25=>347|26=>348|27=>349|46=>355|47=>330|48=>331|49=>356|50=>357|57=>359|n=>n,fun|22=>87|24=>173|25=>272|3=>3|39=>81|0=>0|53=>256|55=>184|4=>4|46=>317|45=>316|50=>242|5=>5|9=>9|66=>328|70=>332|76=>345|77=>346|n=>n,fun|n=>n⟩
theorem Tryz.sortK:Go.Proofs.SlLaysF0.n6 Tryz.prog Tryz.sortK_ren:=layG
def Tryz.sortM_ren:Go.Shelf.Ren:=⟨fun|5=>231|8=>280|7=>279|19=>320|20=>221|10=>311|11=>312|12=>313|13=>314|14=>315|15=>316|16=>317|17=>318|18=>319|30=>329|31=>330|32=>331|33=>332|34=>333|35=>282|40=>351|n=>n,fun|23=>82|25=>2|3=>3|32=>81|22=>82|0=>0|44=>256|46=>184|4=>4|36=>317|35=>316|41=>242|5=>5|9=>9|53=>328|57=>332|63=>345|64=>346|n=>n,fun|n=>n⟩
theorem Tryz.sortM:Go.Proofs.SlLaysM.n5 Tryz.prog Tryz.sortM_ren:=layG
def Tryz.fmtM_ren:Go.Shelf.Ren:=⟨fun|173=>68|246=>103|283=>156|284=>157|285=>158|286=>159|129=>221|317=>220|318=>222|319=>223|320=>224|337=>277|338=>278|n=>n,fun|2=>2|3=>3|9=>9|4=>4|171=>190|0=>0|53=>184|37=>80|5=>5|173=>193|212=>255|51=>256|20=>20|213=>257|46=>81|232=>313|233=>314|n=>n,fun|17=>3|18=>6|19=>7|n=>n⟩
theorem Tryz.fmtM:Go.Proofs.LaysM.n173 Tryz.prog Tryz.fmtM_ren:=layG
def Tryz.joinL_ren:Go.Shelf.Ren:=⟨fun|156=>120|165=>185|166=>186|169=>187|240=>252|241=>253|276=>296|277=>297|n=>n,fun|31=>31|9=>9|3=>3|4=>4|0=>0|20=>20|72=>216|76=>218|70=>214|37=>80|75=>96|127=>274|164=>304|5=>5|80=>220|n=>n,fun|n=>n⟩
theorem Tryz.joinL:Go.Proofs.Lays.n156 Tryz.prog Tryz.joinL_ren:=layG
theorem Tryz.joinL_x:Builder.Extra Tryz.prog Tryz.joinL_ren:=layG
def Tryz.splitL_ren:Go.Shelf.Ren:=⟨fun|146=>35|221=>64|268=>97|138=>98|143=>99|195=>148|197=>149|218=>150|219=>104|260=>214|217=>160|225=>161|224=>162|267=>163|266=>225|314=>226|n=>n,fun|9=>9|31=>31|3=>3|4=>4|0=>0|105=>181|21=>21|5=>5|46=>81|119=>292|139=>295|138=>294|146=>260|51=>256|n=>n,fun|1=>0|3=>4|4=>5|n=>n⟩
theorem Tryz.splitL:Go.Proofs.Lays.n146 Tryz.prog Tryz.splitL_ren:=layG
def Tryz.cutL_ren:Go.Shelf.Ren:=⟨fun|145=>43|220=>70|219=>104|217=>160|225=>161|224=>162|267=>163|266=>225|314=>226|n=>n,fun|9=>9|4=>4|59=>72|3=>3|5=>5|46=>81|146=>260|51=>256|n=>n,fun|1=>0|n=>n⟩
theorem Tryz.cutL:Go.Proofs.Lays.n145 Tryz.prog Tryz.cutL_ren:=layG
def Tryz.parseL_ren:Go.Shelf.Ren:=⟨fun|174=>66|247=>100|245=>101|287=>151|279=>152|280=>153|281=>154|282=>155|321=>215|322=>216|316=>217|171=>219|205=>218|243=>276|246=>103|283=>156|284=>157|285=>158|286=>159|129=>221|317=>220|318=>222|319=>223|320=>224|337=>277|338=>278|n=>n,fun|9=>9|3=>3|2=>2|75=>96|85=>97|4=>4|167=>183|5=>5|53=>184|175=>185|46=>81|168=>187|37=>80|0=>0|210=>252|21=>21|127=>274|145=>298|143=>296|171=>190|173=>193|212=>255|51=>256|20=>20|213=>257|232=>313|233=>314|80=>220|n=>n,fun|15=>1|16=>2|17=>3|18=>6|19=>7|n=>n⟩
theorem Tryz.parseL:Go.Proofs.LaysC.n174 Tryz.prog Tryz.parseL_ren:=layG
end Go.Proofs

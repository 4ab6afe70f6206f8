/- Sum of the reference. For every list of ratios of 64 bits. -/
import Derived.Test.YtpkcmjiokdpegaaDoorRatH
import Derived.Test.YtpkcmjiokdpegaaDoorRegionB
namespace Go.Proofs.YtpkcmjiokdpegaaDoor
open Go.RowKit Go.Rel

end Go.Proofs.YtpkcmjiokdpegaaDoor
